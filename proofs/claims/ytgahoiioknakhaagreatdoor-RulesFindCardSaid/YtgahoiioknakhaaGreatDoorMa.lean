/- A part of the proof; its readable source lies in wip of the prover's repo (squeezed here for the limit of bytes). -/
import Derived.Calls
import Derived.Below
import Derived.Laws.Cells
import Derived.Laws.Rows
import Derived.Laws.StructEq
import Derived.Laws.BytesArg
import Derived.Orders
import Derived.Scope
import Derived.Laws.Externs
import GoSem.ClaimJoined
import Derived.ChangeArms
import Derived.Deep.Slices
set_option linter.all false
open Array renaming ext'->dZ,ext->mw,forIn_toList->kn,getElem?_append->jI,getElem?_eq_getElem->bo,getElem?_eq_none->fF,getElem?_eq_some_iff->aP,getElem?_setIfInBounds->fM,getElem_setIfInBounds->iS,mapM_eq_mapM_toList->jd,range->bA,replicate->bq
open BitVec renaming ofInt->aW
open Bool renaming and_eq_true->ab,false_and->gC,false_eq_true->aF,false_or->cR,not_eq_true'->dt,not_eq_true->eT,not_false->aQ,not_true->ar,or_eq_true->bx,true_and->bQ,true->Y,false->U
open Decidable renaming decide->No
open ForInStep renaming yield->gw
open Function renaming comp->kS,comp_def->f_
open Go.Act renaming put->jx
open Go.Addr renaming add->kr
open Go.Builtin renaming append_->dj,cap_->lh,firstCells->bp,growBy->iU,lenOf->kT,len_->dT,nextslicecap->dE,zeroCells->cI
open Go.Call renaming operands->gy
open Go.Calls renaming mono->me
open Go.DataW renaming weights->ie,weightsAll->iF,weightsEach->gi
open Go.Deferred renaming ofValue->ij
open Go.Instr renaming alloc->lR,build->jV,buildSlice->kL,checkKey->bL,extract->lz,fieldAt->ia,fill->l_,findAsking->iE,findKey->ib,findNow->fO,index->jT,indexAt->gu,keyThatStays->km,loadAt->fZ,lookup->jH,mapUpdate->gK,sameBits->ga,sameNow->jw,slice->gv,sliceAt->eQ,sliceBound->iD,sliceBounds->fj,storeAt->ly,sureAddr->fw
open Go.IntKind renaming i64->du,wrap->an
open Go.Mode renaming plain->kM
open Go.Op renaming eqFields->gI,equal->gG,equalIn->eP,maxDepth->eJ,operands->bc,stringOp->mG
open Go.Oper renaming apart_spec->i_,looksAt->lS,upon->iW,wp->gB
open Go.Program renaming fieldsOf->ko
open Go.Question renaming appendCap->fS,cut->kU,forced->kf
open Go.Region renaming binds->cA,ready->bO,wanted->cS
open Go.Result renaming andThen_ok->ao
open Go.Sem renaming run->je,run_bind->ax,run_map->my,run_pure->bd
open Go.Value renaming int->bK
open Go.World renaming cell?->im,cells?_some->gj
open List renaming all_cons->bE,all_eq_true->aj,all_map->gz,cons_beq_cons->kB,drop_append->iK,drop_drop->gD,drop_eq_getElem_cons->bJ,drop_zero->lD,ext_getElem?->dU,filter_cons->fz,flatten_append->kg,flatten_cons->dp,foldlM_cons->kV,foldl_cons->iY,forIn_cons->gO,getElem?_append->dG,getElem?_cons_succ->aK,getElem?_cons_zero->ch,getElem?_drop->iT,getElem?_eq_getElem->af,getElem?_eq_none->bB,getElem?_eq_some_iff->aq,getElem?_map->aS,getElem?_take->ku,getElem?_toArray->dY,getElem_append_left->jv,getElem_map->cK,getElem_mem->au,getElem_of_mem->bk,isEmpty_map->iL,length->aa,length_append->aL,length_cons->aA,length_map->aI,length_nil->cP,length_pos_iff->dB,length_range->dO,length_take->cQ,map->cD,mapM_cons->lB,map_congr_left->cw,map_cons->aD,map_map->de,mem_append_left->dz,mem_append_right->ic,mem_cons->aG,mem_cons_of_mem->bC,mem_filterMap->dh,mem_map->aN,nil_append->br,range'->eo,range'_succ->kW,range->aT,replicate->cC,replicate_succ->kh,take->jN,take_append_drop->dJ,take_length_add_append->iZ
open List.cons renaming injEq->cW
open Nat renaming add_assoc->fK,add_comm->jD,add_left_cancel->iX,add_mul->cG,add_zero->eC,beq->aw,ble->dI,div_add_mod->jb,div_eq_of_lt->lg,div_lt_iff_lt_mul->gS,eq_of_beq_eq_true->ae,le_add_right->aZ,le_of_ble_eq_true->a_,le_refl->ay,le_trans->bD,lt_of_lt_of_le->gH,lt_or_ge->cU,min_le_left->lC,min_le_right->lj,mod_lt->eZ,mul_add_div->lx,mul_comm->fY,mul_le_mul_right->b_,strongRecOn->ir,sub_self->lZ,testBit_or->lI,zero_add->bj,zero_le->di,zero_mul->ma
open Ne renaming symm->kx
open Option renaming bind_some->ky,getD_none->kz,isNone_some->jW,map_some->ai,none->lJ,some->Z,none->W
open Option.some renaming inj->aJ,injEq->ah
open PUnit renaming unit->dH
open Prod.mk renaming injEq->iq
open Std.Legacy.Range renaming forIn_eq_forIn_range'->lk
open UInt8 renaming ofNat->jU
abbrev bu:=@cond_false
abbrev b6:=@cond_true
abbrev kA:=@decide_eq_true_eq
abbrev cc:=@if_neg
abbrev cr:=@if_pos
abbrev n4:=@decide_false
abbrev l4:=@if_false
abbrev l6:=@decide_true
abbrev pK:=@of_decide_eq_true
abbrev fc:=@decide_eq_false
abbrev vE:=@if_true
abbrev b8:=@absurd
abbrev sG:=@decide_eq_false_iff_not
abbrev hT:=@decide_eq_true
abbrev Ar:=@congrArg
abbrev qj:=@true_and
namespace Go.Ab
variable {N:Nat}{P:Program}{a:Act}{agg:Bool}{at_:Array TypeId}{clock:Nat}{e elem:TypeId}{ev:Operand->Value}{f:FuncId}{field i id' j:Nat}{k:IntKind}{m mask n n0:Nat}{o:Oper}{off:Nat}{op:Op}{ops:Array Oper}{p q:Nat->Bool}{qs:World}{r:Result Value}{sT:TypeId}{size:Nat}{t:TypeId}{ts:Array TypeId}{ty:TypeId}{u:Value}{w':World}{xT:TypeId}{xs:List MapEntry}{z:Value}{α:Type}
abbrev cu.{u}(α:Type u):=List α
variable {rest:cu Nat}{us vs:cu Value}
abbrev dv.{u}(α:Type u):=Option α
variable {d:dv Tmp}{ho:dv Obj}{hv:dv Value}
abbrev eD:=List Int
variable {l:eD}
abbrev bs:=Int×Int
abbrev eY:=List bs
abbrev b9:=Int×Int×Int
abbrev gp:=List b9
abbrev ct:=Int×Int×Int×eY×Int×Int
abbrev hI:=List ct
abbrev yb:=gp×hI×eD
abbrev AL:=Int×Int×Int×ByteArray×eD
abbrev Au:=List AL
abbrev BX:=gp×hI×eD×Au
abbrev ek(n:Int):Int:=an du n
abbrev zy:=Int×eD×List eD×eD
inductive bX where
 |any
 |b4 (v:Value)
 |rs (es:List (List bX))
 |fT (cs:List bX)
 |ms (id size off len:Nat)
 |mp (id i j:Nat)
 |mm (id:Nat)
 |it (id:Nat)
 |fn (f:Fn) (first cap:List bX)
 |agg (cs:List bX)
 |ed (vs:List bX)
 |ey (i:Nat)
 |c8 (id size i:Nat)
 |l3 (id k off:Nat)
 |mY (c:bX)
variable {b:Operand->bX}{c:bX}{es:List (List Int×bX×Nat)}{g:Operand->bX}{ix:bX}{mx:Nat->bX}{v x:bX}
abbrev eX:=List bX
variable {args avs cap cs:eX}
inductive c7 where
 |row (elem:TypeId) (size:Nat) (es:List (List bX))
 |map (agg:Bool) (es:List (List Int×bX×Nat)) (clock:Nat)
 |qO (s:ByteArray) (pos:Nat)
 |tq (m:Option Nat) (since:Nat) (seen:List Nat) (stepped:Nat)
 |fN (elem:TypeId) (size i:Nat)
 |nC (c:bX)
 |qh (s p:bX)
 |nH (elem:TypeId) (size:Nat) (c:bX) (ck:List (Nat×TypeId×Nat)) (k:bX) (off:Nat) (v:Option bX)
variable {o':c7}
structure nt where
 block:Nat
 size:Nat
 cap:Nat
 mX:Bool:=U
variable {pl:Nat->dv nt}
structure ca where
 qs:World
 lo:Nat->Option Obj
 pl:Nat->Option nt
variable {B C G G' G0:ca}
def ca.cell(G:ca)(b o:Nat):dv Value :=
 match G.lo b with
 |some (.cells cs _ _)=>cs[o]?
 |_=>W
structure ca.le(G G':ca):Prop where
 qs:G'.qs=G.qs
 lo:∀b o,G.lo b=Z o->G'.lo b=Z o
 pl:∀i p,G.pl i=Z p->G'.pl i=Z p
def ca.le.refl(G:ca):G.le G:=⟨rfl,λ_ _ h=>h,λ_ _ h=>h⟩
def ca.le.trans{A:ca}(h:A.le B)(k:B.le C):A.le C :=⟨k.qs.trans h.qs,λb o x=>k.lo b o (h.lo b o x),λi p x=>k.pl i p (h.pl i p x)⟩
def ca.le.cell(h:G.le G'){b o:Nat}{v:Value}(hc:G.cell b o=Z v):G'.cell b o=Z v:=by
 unfold ca.cell at *;cases a:G.lo b with
 |none=>simp[a]at hc
 |some x=>rw[h.lo b x a];simpa[a]using hc
def ob(agg:Bool)(l:eD):Value :=ite agg (.agg (l.map (bK .i64)).toArray) <| .int .i64 (l.headD 0)
def bX.vf:eX->dv eD
 | []=>Z []
 | .b4 (.int .i64 n)::cs=>match bX.vf cs with
  |some l=>Z (n::l)
  |none=>W
 |_::_=>W
def bX.key:bX->dv (Bool×eD)
 | .b4 (.int .i64 n)=>Z (U,[n])
 | .agg cs=>match bX.vf cs with
  |some l=>Z (Y,l)
  |none=>W
 |_=>W
def oW(j:Nat):eX->eD×bX×Nat
 | [k,v]=>(match k.key with|some (_,l)=>l|none=>[0],v,j)
 |_=>([0],.b4 (.bool U),j)
def nT:Nat->cu eX->cu (eD×bX×Nat)
 |_,[]=>[]
 |j,r::rs=>oW j r::nT (j+1) rs
def rZ:cu eX->Bool
 | [k,_]::_=>match k.key with
  |some (b,_)=>b
  |none=>U
 |_=>U
inductive eR (G:ca):bX->Value->Prop
 |any (v:Value):eR G .any v
 |b4 (v:Value):eR G (.b4 v) v
 |q9:eR G (.rs []) (.slice W 0 0)
 |rs (es:List (List bX)) (a:Addr) (cap size:Nat) (val:Nat->Nat->Value) (hs:cap≠0->a.spot=W) (hc:aa es<=cap)
   (hlen:∀i (h:i<aa es),es[i].length=size)
   (himm:∀i j,i<aa es->j<size->G.cell a.block (a.off+i*size+j)=Z (val i j))
   (hrep:∀i j (a7:i<aa es) (hj:j<es[i].length),eR G (es[i][j]) (val i j)):eR G (.rs es) (.slice (Z a) (aa es) cap)
 |fT (cs:List bX) (a:Addr) (val:Nat->Value) (hs:a.spot=W)
   (himm:∀j,j<aa cs->G.cell a.block (a.off+j)=Z (val j))
   (hrep:∀j (hj:j<aa cs),eR G (cs[j]) (val j)):eR G (.fT cs) (.pointer (Z a))
 |ms (id size off len:Nat) (p:nt) (hp:G.pl id=Z p) (hv:p.mX=U) (hz:p.size=size) (a:Addr) (c:Nat) (ha:c≠0->a=⟨p.block,off*p.size,W⟩) (hoff:off+c=p.cap) (hl:len<=c) (hsp:a.spot=W) :
   eR G (.ms id size off len) (.slice (Z a) len c)
 |oh (id size:Nat) (p:nt) (hp:G.pl id=Z p) (hv:p.mX=Y):eR G (.ms id size 0 0) (.slice W 0 0)
 |mp (id i j:Nat) (p:nt) (hp:G.pl id=Z p):eR G (.mp id i j) (.pointer (Z ⟨p.block,i*p.size+j,W⟩))
 |mm (id:Nat) (p:nt) (hp:G.pl id=Z p):eR G (.mm id) (.map (Z p.block))
 |it (id:Nat) (p:nt) (hp:G.pl id=Z p):eR G (.it id) (.pointer (Z ⟨p.block,0,W⟩))
 |mY (rows:List (List bX)) (b:Nat) (ents:List MapEntry) (himm:G.lo b=Z (.map ents.toArray (aa rows))) (hlen:aa ents=aa rows)
   (uX:∀i (h:i<aa rows) (h':i<aa ents),ents[i].key=ob (rZ rows) (oW i rows[i]).1/\ents[i].born=i)
   (hrep:∀i (h:i<aa rows) (h':i<aa ents),eR G (oW i rows[i]).2.1 ents[i].val):eR G (.mY (.rs rows)) (.map (Z b))
 |fn (f:Fn) (first cap:List bX) (fv cv:List Value) (h1:aa fv=aa first) (h2:aa cv=aa cap)
   (hf:∀i (h:i<aa first) (h':i<aa fv),eR G first[i] fv[i]) (hc:∀i (h:i<aa cap) (h':i<aa cv),eR G cap[i] cv[i]) :
   eR G (.fn f first cap) (.func f fv.toArray cv.toArray)
 |agg (cs:List bX) (vs:List Value) (h1:aa vs=aa cs) (h:∀i (h:i<aa cs) (h':i<aa vs),eR G cs[i] vs[i]):eR G (.agg cs) (.agg vs.toArray)
 |ed (cs:List bX) (vs:List Value) (h1:aa vs=aa cs) (h:∀i (h:i<aa cs) (h':i<aa vs),eR G cs[i] vs[i]):eR G (.ed cs) (.tuple vs.toArray)
def hE(G:ca)(cs:eX)(vs:cu Value):Prop:=aa vs=aa cs/\∀i (h:i<aa cs) (h':i<aa vs),eR G cs[i] vs[i]
def hE.nil(G:ca):hE G [] []:=⟨rfl,λi h=>by simp at h⟩
def hE.cons{v:Value}(h:eR G c v)(hs:hE G cs vs):hE G (c::cs) (v::vs):=by refine⟨by simp[hs.1],λi h1 h2=>?_⟩;cases i;exact h;rename_i i;exact hs.2 i (by simpa using h1) (by simpa using h2)
def hE.tr(h:hE G [] vs):vs=[]:=by have:=h.1;simpa using this
def hE.cons_inv(h:hE G (c::cs) vs):∃v a,vs=v::a/\eR G c v/\hE G cs a:=by cases vs;have:=h.1;simp at this;rename_i v vs;refine⟨v,vs,rfl,h.2 0 (by simp) (by simp),by have:=h.1;simpa using this,λi h1 h2=>?_⟩;have:=h.2 (i+1) (by simpa using h1) (by simpa using h2);simpa using this
def hE.append{a:eX}(h:hE G cs vs)(k:hE G a us):hE G (cs++a) (vs++us):=by
 induction cs generalizing vs with
 |nil=>rw[h.tr];simpa using k
 |cons c cs b=>obtain⟨v,d,rfl,h1,h2⟩:=h.cons_inv;exact(b h2).cons h1
def hE.get(h:hE G cs vs)(a7:cs[i]?=Z c):∃v,vs[i]?=Z v/\eR G c v:=by obtain⟨a,rfl⟩:=aq.1 a7;exact⟨vs[i]'(by rw[h.1];exact a),af _,h.2 i a (by rw[h.1];exact a)⟩
def hE.drop(h:hE G cs vs)(n:Nat):hE G (cs.drop n) (vs.drop n):=by refine⟨by simp[h.1],λi h1 h2=>?_⟩;have:=h.2 (n+i) (by simp at h1;omega) (by simp at h2;omega);simpa using this
def hE.take(h:hE G cs vs)(n:Nat):hE G (cs.take n) (vs.take n):=by refine⟨by simp[h.1],λi h1 h2=>?_⟩;have:=h.2 i (by simp at h1;omega) (by simp at h2;omega);simpa using this
def eR.mono(e:G.le G'){v:Value}(h:eR G c v):eR G' c v:=by
 induction h with
 |any v=>exact .any v
 |b4 v=>exact .b4 v
 |q9=>exact .q9
 |rs es a cap size val hs hc hlen himm _ d=>exact .rs es a cap size val hs hc hlen (λi j h1 h2=>e.cell (himm i j h1 h2)) d
 |fT cs a val hs himm _ d=>exact .fT cs a val hs (λj h=>e.cell (himm j h)) d
 |ms id size off len p hp hv hz a c ha ho hl hsp=>exact .ms id size off len p (e.pl _ _ hp) hv hz a c ha ho hl hsp
 |oh id size p hp hv=>exact .oh id size p (e.pl _ _ hp) hv
 |mp id i j p hp=>exact .mp id i j p (e.pl _ _ hp)
 |mm id p hp=>exact .mm id p (e.pl _ _ hp)
 |it id p hp=>exact .it id p (e.pl _ _ hp)
 |mY rows b ents himm hlen uX _ d=>exact .mY rows b ents (e.lo _ _ himm) hlen uX d
 |fn f first cap fv cv h1 h2 _ _ g k=>exact .fn f first cap fv cv h1 h2 g k
 |agg cs vs h1 _ d=>exact .agg cs vs h1 d
 |ed cs vs h1 _ d=>exact .ed cs vs h1 d
def hE.mono(a:G.le G')(h:hE G cs vs):hE G' cs vs:=⟨h.1,λi h1 h2=>(h.2 i h1 h2).mono a⟩
inductive ef (α:Type) where
 |leaf
 |node (v:Option α) (l r:ef α)
def ef.get{α:Type}:ef α->Nat->dv α
 | .leaf,_=>W
 | .node v _ _,0=>v
 | .node _ l r,k+1=>match k%2 with
  | 0=>l.get (k / 2)
  |_=>r.get (k / 2)
def ef.qf{α:Type}(v:dv α):Nat->Nat->ef α->ef α
 |_,0,.leaf=>.node v .leaf .leaf
 |_,0,.node _ l r=>.node v l r
 | 0,_+1,t=>t
 |f+1,k+1,.leaf=>match k%2 with
  | 0=>.node W (qf v f (k / 2) .leaf) .leaf
  |_=>.node W .leaf (qf v f (k / 2) .leaf)
 |f+1,k+1,.node x l r=>match k%2 with
  | 0=>.node x (qf v f (k / 2) l) r
  |_=>.node x l (qf v f (k / 2) r)
def ef.set{α:Type}(t:ef α)(k:Nat)(v:dv α):ef α:=ef.qf v k k t
theorem ef.uF(i:Nat):(ef.leaf:ef α).get i=W:=by cases i<;>rfl
def ef.FM(v:dv α):∀(f k:Nat) (t:ef α) (i:Nat),k<=f->(ef.qf v f k t).get i=if i=k then v else t.get i
 |f,0,.leaf,i,_=>by cases i<;>grind[ef.qf,ef.get]
 |f,0,.node x l r,i,_=>by
  have:(ef.qf v f 0 (.node x l r))=.node v l r:=by cases f<;>rfl
  rw[this];cases i;rfl;rfl
 | 0,k+1,t,i,h=>by omega
 |f+1,k+1,.leaf,i,h=>by
  cases i;simp only[ef.qf];split<;>rfl;rename_i i;simp only[ef.qf];have hk:k / 2<=f:=by omega
  split;simp only[ef.get];split;rw[ef.FM v f (k / 2) .leaf (i / 2) hk]
  grind[ef.uF]
  grind
  rename_i a;replace a:¬k%2=0:=a;simp only[ef.get];split
  grind
  rename_i b;replace b:¬i%2=0:=b;rw[ef.FM v f (k / 2) .leaf (i / 2) hk]
  grind[ef.uF]
 |f+1,k+1,.node x l r,i,h=>by
  cases i;simp only[ef.qf];split<;>rfl;rename_i i;simp only[ef.qf];have hk:k / 2<=f:=by omega
  split;simp only[ef.get];split;rw[ef.FM v f (k / 2) l (i / 2) hk]
  grind
  grind
  rename_i a;replace a:¬k%2=0:=a;simp only[ef.get];split
  grind
  rename_i b;replace b:¬i%2=0:=b;rw[ef.FM v f (k / 2) r (i / 2) hk]
  grind
def ef.FL(t:ef α)(k:Nat)(v:dv α)(i:Nat):(t.set k v).get i=if i=k then v else t.get i:=ef.FM v k k t i (ay _)
structure bg where
 next:Nat
 mZ:ef c7
 low:Nat:=0
variable {R:bX->bg->Prop}{σ σ' σ0 σ1 σv σv':bg}
def bg.bF(σ:bg)(i:Nat):dv c7:=σ.mZ.get i
def oq(G:ca)(p:nt):c7->dv Obj->Prop
 | .row elem size es,ho=>∃cs:Array Value,ho=Z (.cells cs elem (0,0))/\p.size=size/\cs.size=p.cap*size/\aa es<=p.cap /\
   ∀i (h:i<aa es),es[i].length=size/\∀j (hj:j<es[i].length) (h':i*size+j<cs.size),eR G es[i][j] cs[i*size+j]
 | .map agg es clock,ho=>∃ents:Array MapEntry,ho=Z (.map ents clock)/\ents.size=aa es /\
   ∀i (h:i<aa es) (h':i<ents.size),ents[i].key=ob agg es[i].1/\eR G es[i].2.1 ents[i].val/\ents[i].born=es[i].2.2
 | .qO s pos,ho=>ho=Z (.stringIter s pos)
 | .fN _ _ _,_=>False
 | .nC _,_=>False
 | .nH ..,_=>False
 | .qh _ _,_=>False
 | .tq m since seen stepped,ho=>∃a,ho=Z (.mapIter a since seen.toArray stepped) /\
   (match m with|none=>a=W|some id=>∃p,G.pl id=Z p/\a=Z p.block)
def oq.mono(b:G.le G'){p:nt}{o:c7}(h:oq G p o ho):oq G' p o ho:=by
 cases o with
 |row elem size es =>let ⟨cs,h1,h2,a,f,d⟩:=h;exact⟨cs,h1,h2,a,f,λi a7=>⟨(d i a7).1,λj hj h'=>((d i a7).2 j hj h').mono b⟩⟩
 |map agg es clock =>let ⟨ents,h1,h2,a⟩:=h;exact⟨ents,h1,h2,λi a7 h'=>⟨(a i a7 h').1,(a i a7 h').2.1.mono b,(a i a7 h').2.2⟩⟩
 |qO s pos=>exact h
 |fN e s i=>exact h
 |nC c=>exact h
 |nH=>exact h
 |qh s p=>exact h
 |tq m since seen stepped =>let ⟨g,h1,h2⟩:=h;refine⟨g,h1,?_⟩;cases m;exact h2;let ⟨p,hp,e⟩:=h2;exact⟨p,b.pl _ _ hp,e⟩
def oq.isSome{p:nt}{o:c7}(h:oq G p o ho):ho.isSome=Y:=by cases o<;>grind[oq]
def Ht(G:ca)(w:World)(p:nt)(o:c7):Prop :=(p.mX=Y/\∃e s,o=.row e s [])\/(p.mX=U/\G.lo p.block=W/\G.qs.heap.size<=p.block/\oq G p o w.heap[p.block]?)
class nO where
 cell:Nat->Nat->Option Value
variable [nO]
structure Rel(G:ca)(σ:bg)(w:World):Prop where
 os:w.os=G.qs.os
 tape:w.tape=G.qs.tape
 output:w.output=G.qs.output
 size:G.qs.heap.size<=w.heap.size
 lo:∀b o,G.lo b=Z o->w.heap[b]?=Z o
 fresh:∀id,σ.next<=id->G.pl id=W
 bF:∀id o,σ.bF id=Z o->∃p,G.pl id=Z p/\Ht G w p o
 sep:∀i j oi oj pi pj,σ.bF i=Z oi->σ.bF j=Z oj->G.pl i=Z pi->G.pl j=Z pj->pi.mX=U->pj.mX=U->pi.block=pj.block->i=j
 qE:∀b o v,nO.cell b o=Z v->G.cell b o=Z v
def Rel.lt{w:World}(h:Rel G σ w){b:Nat}{o:Obj}(a:G.lo b=Z o):b<w.heap.size:=by
 have:=h.lo b o a
 grind
def Rel.wY{w:World}(h:Rel G σ w){id:Nat}{o:c7}{p:nt}(ho:σ.bF id=Z o)(hp:G.pl id=Z p):Ht G w p o:=by
 let ⟨b,a,hl⟩:=h.bF id o ho
 grind
def Rel.real{w:World}(h:Rel G σ w){id:Nat}{o:c7}{p:nt}(ho:σ.bF id=Z o)(hp:G.pl id=Z p)(hv:p.mX=U) :
  G.lo p.block=W/\G.qs.heap.size<=p.block/\oq G p o w.heap[p.block]?:=by
 rcases h.wY ho hp with⟨h1,_⟩|⟨_,h2⟩
 rw[hv]at h1;cases h1;exact h2
def Rel.r_{w:World}(h:Rel G σ w){id:Nat}{o:c7}{p:nt}(ho:σ.bF id=Z o)(hp:G.pl id=Z p)(hv:p.mX=U):p.block<w.heap.size:=by
 have:=(h.real ho hp hv).2.2.isSome
 grind
def Rel.VP{w:World}(h:Rel G σ w){id:Nat}{p:nt}(hp:G.pl id=Z p):id<σ.next:=by
 rcases cU id σ.next with h'|h'
 exact h';rw[h.fresh id h']at hp;cases hp
def Rel.cell{w:World}(h:Rel G σ w){b o:Nat}{v:Value}(hc:G.cell b o=Z v):w.cell? ⟨b,o,W⟩=Z v:=by
 unfold ca.cell at hc;cases a:G.lo b with
 |none=>simp[a]at hc
 |some x =>have:=h.lo b x a;simp only[a]at hc;cases x<;>simp at hc;simp[im,this,hc]
def Rel.drawn{w:World}(h:Rel G σ w)(n:Nat):Rel G σ { w with drawn:=n } :=⟨h.os,h.tape,h.output,h.size,h.lo,h.fresh,h.bF,h.sep,h.qE⟩
def Rel.less{w:World}(h:Rel G σ w)(a:σ'.next=σ.next)(hf:∀i o,σ'.bF i=Z o->σ.bF i=Z o):Rel G σ' w :=⟨h.os,h.tape,h.output,h.size,h.lo,by rw[a];exact h.fresh,λid o ho=>h.bF id o (hf _ _ ho),λi j oi oj pi pj h1 h2=>h.sep i j oi oj pi pj (hf _ _ h1) (hf _ _ h2),h.qE⟩
def Rel.next{w:World}(h:Rel G σ w)(a:σ.next<=n):Rel G { σ with next:=n } w :=⟨h.os,h.tape,h.output,h.size,h.lo,λid hid=>h.fresh id (bD a hid),h.bF,h.sep,h.qE⟩
def ca.place(G:ca)(id:Nat)(p:nt):ca:={ G with pl:=λi=>ite (i=id) (Z p) <|G.pl i }
def ca.Cf{id:Nat}{p:nt}(h:G.pl id=W):G.le (G.place id p) :=⟨rfl,λ_ _ h=>h,λi q a=>by grind[ca.place]⟩
theorem ca.sc(G:ca)(id:Nat)(p:nt):(G.place id p).pl id=Z p:=by simp[ca.place]
def bg.set(σ:bg)(id:Nat)(o:c7):bg:={ σ with mZ:=σ.mZ.set id (Z o),low:=min σ.low id }
def bg.del(σ:bg)(id:Nat):bg:={ σ with mZ:=σ.mZ.set id W,low:=min σ.low id }
theorem bg.x9(σ:bg)(id:Nat)(o:c7)(i:Nat):(σ.set id o).bF i=if i=id then Z o else σ.bF i:=ef.FL _ _ _ _
theorem bg.rK(σ:bg)(id:Nat)(i:Nat):(σ.del id).bF i=if i=id then W else σ.bF i:=ef.FL _ _ _ _
@[simp] theorem bg.PX (σ:bg) (id:Nat) (o:c7):(σ.set id o).next=σ.next:=rfl
@[simp] theorem bg.ce5 (σ:bg) (id:Nat):(σ.del id).next=σ.next:=rfl
structure Fr(G:ca)(σ:bg)(w:World)(G':ca)(σ':bg)(w':World):Prop where
 size:w.heap.size<=w'.heap.size
 same:∀b,b<w.heap.size->(∀id o p,σ.bF id=Z o->G.pl id=Z p->p.mX=U->p.block≠b)->w'.heap[b]?=w.heap[b]?
 live:∀id o p,σ'.bF id=Z o->G'.pl id=Z p->p.mX=U->p.block<w.heap.size->∃id0 o0 p0,σ.bF id0=Z o0/\G.pl id0=Z p0/\p0.mX=U/\p0.block=p.block
 lo:∀b o,G'.lo b=Z o->G.lo b=Z o\/w.heap.size<=b\/∃id0 o0 p0,σ.bF id0=Z o0/\G.pl id0=Z p0/\p0.mX=U/\p0.block=b
 drawn:w.drawn<=w'.drawn
def Fr.refl(G:ca)(σ:bg)(w:World):Fr G σ w G σ w :=⟨ay _,λ_ _ _=>rfl,λid o p h1 h2 a _=>⟨id,o,p,h1,h2,a,rfl⟩,λ_ _ h=>.inl h,ay _⟩
def Fr.trans{m n q:ca}{a c:bg}{g r s:World}(h:Fr m σ1 g n a r)(k:Fr n a r q c s):Fr m σ1 g q c s:=by
 refine⟨bD h.size k.size,λb i u=>?_,λid o p h1 h2 v x=>?_,λb o i=>?_,bD h.drawn k.drawn⟩;have hs:=h.size;rw[k.same b (by omega) (λid o p fa gb kc yF=>?_),h.same b i u];let ⟨id0,o0,p0,d,e,f,t⟩:=h.live id o p fa gb kc (by omega)
 grind
 have hs:=h.size;let ⟨id0,o0,p0,d,e,f,t⟩:=k.live id o p h1 h2 v (by omega);let ⟨j,o1,q5,t1,t2,t3,t4⟩:=h.live id0 o0 p0 d e f (by omega)
 grind
 have hs:=h.size;rcases k.lo b o i with h1|h1|⟨id0,o0,p0,d,e,f,t⟩
 exact h.lo b o h1;exact .inr (.inl (by omega));rcases cU b g.heap.size with w|l
 let ⟨j,o1,q5,t1,t2,t3,t4⟩:=h.live id0 o0 p0 d e f (by omega)
 grind
 exact .inr (.inl l)
def Fr.less{w:World}(hf:∀i o,σ'.bF i=Z o->σ.bF i=Z o):Fr G σ w G σ' w :=⟨ay _,λ_ _ _=>rfl,λid o p h1 h2 a _=>⟨id,o,p,hf _ _ h1,h2,a,rfl⟩,λ_ _ h=>.inl h,ay _⟩
def Fr.MM(G:ca)(σ:bg)(w:World)(n:Nat)(a:w.drawn<=n):Fr G σ w G σ { w with drawn:=n } :=⟨ay _,λ_ _ _=>rfl,λid o p h1 h2 b _=>⟨id,o,p,h1,h2,b,rfl⟩,λ_ _ h=>.inl h,a⟩
def Fr.push{w:World}(obj:Obj)(id:Nat)(hid:G.pl id=W)(p:nt)(hp:p.mX=U->p.block=w.heap.size)(o:c7)(n:Nat)(a:w.drawn<=n:=by grind) :
  Fr G σ w (G.place id p) (σ.set id o) { w with drawn:=n,heap:=w.heap.push obj }:=by
 refine⟨by simp,λb c _=>?_,λi x q h1 h2 d e=>?_,λ_ _ h=>.inl h,a⟩
 grind
 grind[ bg.x9,ca.place]
def Fr.mX{w:World}(id:Nat)(p:nt)(hp:p.mX=Y)(o:c7):Fr G σ w (G.place id p) (σ.set id o) w:=by
 refine⟨ay _,λ_ _ _=>rfl,λi x q h1 h2 a b=>?_,λ_ _ h=>.inl h,ay _⟩
 grind[ bg.x9,ca.place]
def Fr.write{w:World}{id:Nat}{o:c7}{p:nt}(ho:σ.bF id=Z o)(hp:G.pl id=Z p)(hv:p.mX=U)(w':World)(c:w'.heap.size=w.heap.size)
  (a:∀k,k≠p.block->w'.heap[k]?=w.heap[k]?) (hd:w.drawn<=w'.drawn:=by exact ay _):Fr G σ w G (σ.set id o') w':=by
 refine⟨by omega,λb e d=>a b (d id o p ho hp hv ·.symm),λi x q h1 h2 f g=>?_,λ_ _ h=>.inl h,hd⟩
 grind[bg.x9]
def Fr.move{w:World}{id:Nat}{o:c7}{p:nt}(ho:σ.bF id=Z o)(hp:G.pl id=Z p):Fr G σ w (G.place id' p) ((σ.del id).set id' o') w:=by
 refine⟨ay _,λ_ _ _=>rfl,λi x q h1 h2 a b=>?_,λ_ _ h=>.inl h,ay _⟩
 grind[ bg.x9,bg.rK,ca.place]
def Rel.push{w:World}(h:Rel G σ w)(obj:Obj)(id:Nat)(hid:G.pl id=W)(v:id<σ.next)(p:nt)(hp:p.block=w.heap.size)(hv:p.mX=U)(o:c7)
  (z:oq (G.place id p) p o (Z obj)):Rel (G.place id p) (σ.set id o) { w with heap:=w.heap.push obj }:=by
 have hle:G.le (G.place id p):=ca.Cf hid;have c:∀k,k<w.heap.size->(w.heap.push obj)[k]?=w.heap[k]?:=λk hk=>by grind
 have l:∀i q,i≠id->(G.place id p).pl i=Z q->G.pl i=Z q:=λi q a7 a=>by simpa[ca.place,a7]using a
 refine⟨h.os,h.tape,h.output,bD h.size (by simp),λb x g=>?_,λi a7=>?_,λi x d=>?_,λi j oi oj pi pj h1 h2 B C v1 v2 D=>?_,h.qE⟩;rw[c b (h.lt g)];exact h.lo b x g;have:i≠id:=by simp at a7;omega
 simp only[ca.place,this];exact h.fresh i a7;by_cases e:i=id;subst e;simp[bg.x9]at d;refine⟨p,ca.sc _ _ _,.inr ⟨hv,?_,by rw[hp];exact h.size,?_⟩⟩;show G.lo p.block=W;cases g:G.lo p.block with
 |none=>rfl
 |some y=>have:=h.lt g;omega
 grind
 simp[bg.x9,e]at d;let ⟨q,a,hl⟩:=h.bF i x d;refine⟨q,hle.pl _ _ a,?_⟩;rcases hl with hl|⟨f,m,n,r⟩
 exact .inl hl;refine .inr ⟨f,m,n,?_⟩;rw[c _ (h.r_ d a f)];exact r.mono hle;have aux:∀i x q,i≠id->(σ.set id o).bF i=Z x->(G.place id p).pl i=Z q->q.mX=U->σ.bF i=Z x/\G.pl i=Z q/\q.block<w.heap.size:=λi x q a7 d a hv=>by
  have h1:σ.bF i=Z x:=by grind[bg.x9]
  have h2:=l i q a7 a;exact⟨h1,h2,h.r_ h1 h2 hv⟩
 by_cases s:i=id<;>by_cases t:j=id;rw[s,t]
 grind[ca.sc]
 grind[ca.sc]
 have u:=aux i oi pi s h1 B v1;have a2:=aux j oj pj t h2 C v2;exact h.sep i j oi oj pi pj u.1 a2.1 u.2.1 a2.2.1 v1 v2 D
def Rel.mX{w:World}(h:Rel G σ w)(id:Nat)(hid:G.pl id=W)(m:id<σ.next)(p:nt)(hv:p.mX=Y)(e:TypeId)(s:Nat) :
  Rel (G.place id p) (σ.set id (.row e s [])) w:=by
 have hle:G.le (G.place id p):=ca.Cf hid;have a:∀i q,i≠id->(G.place id p).pl i=Z q->G.pl i=Z q:=λi q a7 c=>by simpa[ca.place,a7]using c
 refine⟨h.os,h.tape,h.output,h.size,h.lo,λi a7=>?_,λi x b=>?_,λi j oi oj pi pj h1 h2 n o v1 v2 r=>?_,h.qE⟩;have:i≠id:=by simp at a7;omega
 simp only[ca.place,this];exact h.fresh i a7;by_cases l:i=id;subst l;simp[bg.x9]at b;subst b;exact⟨p,ca.sc _ _ _,.inl ⟨hv,e,s,rfl⟩⟩;simp[bg.x9,l]at b;let ⟨q,c,hl⟩:=h.bF i x b;refine⟨q,hle.pl _ _ c,?_⟩;rcases hl with hl|⟨d,f,g,k⟩
 exact .inl hl;exact .inr ⟨d,f,g,k.mono hle⟩;have t:i≠id:=λe=>by grind[ca.sc]
 have u:j≠id:=λe=>by grind[ca.sc]
 exact h.sep i j oi oj pi pj (by grind[bg.x9]) (by grind[bg.x9]) (a _ _ t n) (a _ _ u o) v1 v2 r
def Rel.write{w:World}(h:Rel G σ w){id:Nat}{o:c7}{p:nt}(ho:σ.bF id=Z o)(hp:G.pl id=Z p)(hv:p.mX=U)(obj:Obj)(w':World)
  (r:w'.os=w.os) (c:w'.tape=w.tape) (g:w'.output=w.output) (d:w'.heap.size=w.heap.size)
  (a:∀k,k≠p.block->w'.heap[k]?=w.heap[k]?) (l:w'.heap[p.block]?=Z obj) (s:oq G p o' (Z obj)):Rel G (σ.set id o') w':=by
 let ⟨m,t,_⟩:=h.real ho hp hv;refine⟨r.trans h.os,c.trans h.tape,g.trans h.output,by rw[d];exact h.size,λb x u=>?_,h.fresh,λi x f=>?_,λi j oi oj pi pj h1 h2 D E v1 v2 H=>?_,h.qE⟩;rw[a b (λe=>by rw[e,m]at u;cases u)];exact h.lo b x u;by_cases e:i=id;subst e;simp[bg.x9]at f;subst f;exact⟨p,hp,.inr ⟨hv,m,t,by rw[l];exact s⟩⟩;simp[bg.x9,e]at f;let ⟨q,C,hl⟩:=h.bF i x f;refine⟨q,C,?_⟩;rcases hl with hl|⟨n,v,z,B⟩
 exact .inl hl;refine .inr ⟨n,v,z,?_⟩;rw[a q.block (λI=>e (h.sep i id x o q p f ho C hp n hv I))];exact B;have aux:∀i x,(σ.set id o').bF i=Z x->∃y,σ.bF i=Z y:=λi x f=>by grind[bg.x9]
 let ⟨J,K⟩:=aux i oi h1;let ⟨M,a2⟩:=aux j oj h2;exact h.sep i j J M pi pj K a2 D E v1 v2 H
def Rel.move{w:World}(h:Rel G σ w){id:Nat}{o:c7}{p:nt}(ho:σ.bF id=Z o)(hp:G.pl id=Z p)(hid:G.pl id'=W)(z:id'<σ.next) :
  Rel (G.place id' p) ((σ.del id).set id' o) w:=by
 have hle:G.le (G.place id' p):=ca.Cf hid;have B:id≠id':=λe=>by rw[e,hid]at hp;cases hp
 have back:∀i x,i≠id'->((σ.del id).set id' o).bF i=Z x->i≠id/\σ.bF i=Z x:=λi x a7 g=>by grind[bg.x9,bg.rK]
 have a:∀i q,i≠id'->(G.place id' p).pl i=Z q->G.pl i=Z q:=λi q a7 m=>by simpa[ca.place,a7]using m
 have lift:∀q x,Ht G w q x->Ht (G.place id' p) w q x:=λq x hl=>by
  rcases hl with hl|⟨n,r,s,t⟩
  exact .inl hl;exact .inr ⟨n,r,s,t.mono hle⟩
 refine⟨h.os,h.tape,h.output,h.size,h.lo,λi a7=>?_,λi x g=>?_,λi j oi oj pi pj h1 h2 k l v1 v2 u=>?_,h.qE⟩;have:i≠id':=by simp at a7;omega
 simp only[ca.place,this];exact h.fresh i a7;by_cases e:i=id';subst e;simp[bg.x9]at g;subst g;exact⟨p,ca.sc _ _ _,lift _ _ (h.wY ho hp)⟩;let ⟨_,v⟩:=back i x e g;let ⟨q,m,hl⟩:=h.bF i x v;exact⟨q,hle.pl _ _ m,lift _ _ hl⟩;by_cases b:i=id'<;>by_cases c:j=id';rw[b,c];let ⟨d,f⟩:=back j oj c h2;subst b;rw[ca.sc]at k;cases k;exact b8 (h.sep j id oj o pj p f ho (a j pj c l) hp v2 v1 u.symm) d;let ⟨d,f⟩:=back i oi b h1;subst c;rw[ca.sc]at l;cases l;exact b8 (h.sep i id oi o pi p f ho (a i pi b k) hp v1 v2 u) d;let ⟨_,d⟩:=back i oi b h1;let ⟨_,f⟩:=back j oj c h2;exact h.sep i j oi oj pi pj d f (a i pi b k) (a j pj c l) v1 v2 u
open Go
structure nk where
 j4:TypeDesc
 size:Nat
 zero:Value
 bytes:Nat
 flat:Option Nat:=W
variable {st ti:nk}
abbrev bY:=TypeId->dv nk
def nk.isAgg(ti:nk):Bool:=match ti.j4 with| .struct _| .array _ _=>Y|_=>U
def bX.one:bX->Bool
 | .b4 (.agg _)| .b4 (.tuple _)| .any| .agg _| .ed _=>U
 |_=>Y
def bX.cells:bX->dv eX
 | .agg cs=>Z cs
 | .ed _| .any| .b4 (.agg _)| .b4 (.tuple _)=>W
 |x=>Z [x]
def bX.ofValue:Value->bX
 | .agg cs=>.agg (cs.toList.map .b4)
 |v=>.b4 v
def nk.zeroCells(ti:nk):eX:=ti.zero.cells.toList.map .b4
structure rk(P:Program)(T:bY):Prop where
 j4:∀t ti,T t=Z ti->P.underlying t=Z ti.j4
 info:∀t ti,T t=Z ti->∃i,P.info? t=Z i/\i.size=ti.size/\i.bytes=ti.bytes/\i.zero=Z ti.zero
 Lf:∀t ti,T t=Z ti->ti.zero.cells.size=ti.size
 flat:∀t ti n,T t=Z ti->ti.flat=Z n->P.eqGuardType P.depth t=U/\∀(az fA:List Int) (w:World),aa az=n->aa fA=n ->
  (eP 10000 t (.agg (az.map (bK .i64)).toArray) (.agg (fA.map (bK .i64)).toArray)).run P w=.ok (az==fA) w /\
  ∀b,(bL b 10000 t (.agg (az.map (bK .i64)).toArray)).run P w=.ok () w
section
variable {P:Program} {T:bY} (cb:rk P T) {t:TypeId} {ti:nk} (h:T t=Z ti) (w:World)
include cb h
theorem oG:(underlying t).run P w=.ok ti.j4 w:=by simp[underlying,cb.j4 t ti h]
theorem rj:(sizeOf t).run P w=.ok ti.size w:=by let ⟨i,h1,h2,_⟩:=cb.info t ti h;simp[sizeOf,typeInfo,h1,h2]
theorem BG:(zeroValue t).run P w=.ok ti.zero w:=by let ⟨i,h1,_,_,a⟩:=cb.info t ti h;simp[zeroValue,typeInfo,h1,a]
theorem FR:(isAgg t).run P w=.ok ti.isAgg w:=by simp only[isAgg,ax,oG cb h,nk.isAgg];cases ti.j4<;>rfl
theorem ah2:∃i,(typeInfo t).run P w=.ok i w/\i.bytes=ti.bytes:=by let ⟨i,h1,_,a,_⟩:=cb.info t ti h;exact⟨i,by simp[typeInfo,h1],a⟩
end
def eR.ofValue(G:ca)(v:Value):eR G (.ofValue v) v:=by
 cases v with
 |agg cs =>have:=eR.agg (G:=G) (cs.toList.map .b4) cs.toList (by simp) (λi h h'=>by simp;exact .b4 _);simpa[bX.ofValue]using this
 |_=>exact .b4 _
def hE.b4(G:ca)(vs:cu Value):hE G (vs.map .b4) vs:=⟨by simp,λi h h'=>by simp;exact .b4 _⟩
def eR.cells{v:Value}(hc:c.cells=Z cs)(h:eR G c v):hE G cs v.cells.toList:=by
 cases h with
 |agg d vs h1 h2=>simp[bX.cells]at hc;subst hc;exact⟨h1,h2⟩
 |any=>simp[bX.cells]at hc
 |ed=>simp[bX.cells]at hc
 |b4 v=>cases v<;>simp[bX.cells]at hc<;>subst hc<;>exact hE.cons (.b4 _) (.nil _)
 |q9=>simp[bX.cells]at hc;subst hc;exact hE.cons .q9 (.nil _)
 |rs es a cap size val hs e hlen himm hrep=>simp[bX.cells]at hc;subst hc;exact hE.cons (.rs es a cap size val hs e hlen himm hrep) (.nil _)
 |fT d a val hs himm hrep=>simp[bX.cells]at hc;subst hc;exact hE.cons (.fT d a val hs himm hrep) (.nil _)
 |ms id size off len p hp hv hz a c ha ho hl hsp=>simp[bX.cells]at hc;subst hc;exact hE.cons (.ms id size off len p hp hv hz a c ha ho hl hsp) (.nil _)
 |oh id size p hp hv=>simp[bX.cells]at hc;subst hc;exact hE.cons (.oh id size p hp hv) (.nil _)
 |mp id i j p hp=>simp[bX.cells]at hc;subst hc;exact hE.cons (.mp id i j p hp) (.nil _)
 |mm id p hp=>simp[bX.cells]at hc;subst hc;exact hE.cons (.mm id p hp) (.nil _)
 |it id p hp=>simp[bX.cells]at hc;subst hc;exact hE.cons (.it id p hp) (.nil _)
 |mY rows b ents himm hlen uX hrep=>simp[bX.cells]at hc;subst hc;exact hE.cons (.mY rows b ents himm hlen uX hrep) (.nil _)
 |fn f first cap fv cv h1 h2 g k=>simp[bX.cells]at hc;subst hc;exact hE.cons (.fn f first cap fv cv h1 h2 g k) (.nil _)
def eR.one{v:Value}(hc:c.one=Y)(h:eR G c v):v.oneCell'=Y:=by
 cases h with
 |b4 v=>cases v<;>simp[bX.one]at hc<;>rfl
 |_=>first|rfl|simp[bX.one]at hc
def o_(G:ca)(σ:bg)(w:World)(σ':bg)(id:Nat)(v:bX)(r:Result Value):Prop :=∃G' u w',G.le G'/\(∀i,i≠id->G.pl i=W->G'.pl i=W)/\r=.ok u w'/\eR G' v u/\Rel G' σ' w'/\Fr G σ w G' σ' w'
theorem o_.same{id:Nat}{w:World}(a:eR G v u)(h:Rel G σ w):o_ G σ w σ id v (.ok u w) :=⟨G,u,w,.refl G,λ_ _ h=>h,rfl,a,h,.refl _ _ _⟩
def y9(G:ca)(w:World)(v:bX)(r:Result Value):Prop:=∃u,r=.ok u w/\eR G v u
def y9.res{id:Nat}{w:World}(h:y9 G w v r)(a:Rel G σ w):o_ G σ w σ id v r:=by obtain⟨u,rfl,q⟩:=h;exact .same q a
def o_.place{id:Nat}{w:World}{p:nt}(hid:G.pl id=W)(a:eR (G.place id p) v u)(h:Rel (G.place id p) σ' w')(hf:Fr G σ w (G.place id p) σ' w'):o_ G σ w σ' id v (.ok u w') :=⟨G.place id p,u,w',ca.Cf hid,λi a7 b=>by simpa[ca.place,a7]using b,rfl,a,h,hf⟩
theorem o_.less{id:Nat}{w:World}(hf:∀i o,σ1.bF i=Z o->σ.bF i=Z o)(h:o_ G σ1 w σ' id v r):o_ G σ w σ' id v r:=by let ⟨G',u,w',h1,h2,a,b,c,d⟩:=h;exact⟨G',u,w',h1,h2,a,b,c,(Fr.less hf).trans d⟩
def aO0{vs:Array Value}(h:hE G cs vs.toList):∀i (h:i<aa [cs]),aa ([cs][i])=aa cs/\∀j (hj:j<aa ([cs][i])) (h':i*aa cs+j<vs.size),eR G ([cs][i][j]) vs[i*aa cs+j]:=by
 intro i a7;have:i=0:=by simpa using a7
 subst this;refine⟨rfl,λj hj h'=>?_⟩;have:=h.2 j (by simpa using hj) (by simpa using h');simpa using this
def ap0{w:World}(h:Rel G σ w)(t:TypeId)(v:Value)(cs:eX)(hc:hE G cs v.cells.toList)(id:Nat)(hid:G.pl id=W)(a:id<σ.next) :
  o_ G σ w (σ.set id (.row t (aa cs) [cs])) id (.mp id 0 0) ((do pure (.pointer (Z (<-newVar t v))):Sem Value).run P w):=by
 let p:nt:={ block:=w.heap.size,size:=aa cs,cap:=1 }
 have b:=h.push (.cells v.cells t) id hid a p rfl rfl (.row t (aa cs) [cs]) ⟨v.cells,rfl,rfl,by simpa[p]using hc.1,by simp[p],aO0 (hc.mono (ca.Cf hid))⟩;refine o_.place (p:=p) (w':={ w with heap:=w.heap.push (.cells v.cells t) }) hid ?_ b (Fr.push _ id hid p (λ_=>rfl) _ w.drawn);have:=eR.mp (G:=G.place id p) id 0 0 p (ca.sc _ _ _);simpa using this
def Aj(T:bY)(σ:bg)(id:Nat)(t:TypeId):dv (bX×bg) :=
 match T t with
 |some ti=>Z (.mp id 0 0,σ.set id (.row t (aa ti.zeroCells) [ti.zeroCells]))
 |none=>W
def ca2{T:bY}(cb:rk P T){w:World}(h:Rel G σ w){id:Nat}(hid:G.pl id=W)(a:id<σ.next)
  (ha:Aj T σ id t=Z (v,σ')):o_ G σ w σ' id v ((lR t Y (.tuple #[])).run P w):=by
 unfold Aj at ha;cases b:T t with
 |none=>simp[b]at ha
 |some ti =>simp only[b]at ha;obtain⟨rfl,rfl⟩:=ha;have:=ap0 (P:=P) h t ti.zero ti.zeroCells (hE.b4 G _) id hid a;simpa[lR,BG cb b]using this
def yf(σ:bg)(id:Nat)(t:TypeId)(x:bX):dv (bX×bg) :=
 match x.cells with
 |some cs=>Z (.mp id 0 0,σ.set id (.row t (aa cs) [cs]))
 |none=>W
def aU5{w:World}(h:Rel G σ w){id:Nat}(b:eR G x u)(hid:G.pl id=W)(a:id<σ.next)
  (ha:yf σ id t x=Z (v,σ')):o_ G σ w σ' id v ((Instr.box t u).run P w):=by
 unfold yf at ha;cases hc:x.cells with
 |none=>simp[hc]at ha
 |some cs =>simp only[hc]at ha;obtain⟨rfl,rfl⟩:=ha;exact ap0 (P:=P) h t u cs (b.cells hc) id hid a
def sj(ti:nk)(cs:eX)(j:Nat):dv bX :=ite ti.isAgg (ite (j+ti.size<=aa cs) (Z (.agg ((cs.drop j).take ti.size))) W) <|cs[j]?
def py(T:bY)(σ:bg)(t:TypeId)(x:bX):dv bX :=
 match x with
 | .mp id i j=>
  match σ.bF id with
  |some (.row _ _ es)=>match es[i]? with
   |some cs=>match T t with
    |some ti=>sj ti cs j
    |none=>W
   |none=>W
  |_=>W
 | .fT cs=>match T t with
  |some ti=>sj ti cs 0
  |none=>W
 |_=>W
def tL(b o n:Nat):(kr ⟨b,o,W⟩ n)=⟨b,o+n,W⟩:=by unfold kr;split;rename_i h;subst h;rfl;rfl
def Fh{T:bY}(cb:rk P T){w:World}(d:T t=Z ti)(b o:Nat)(cs:eX)(val:Nat->Value)(j:Nat)
  (a:∀k,k<aa cs->w.cell? ⟨b,o+k,W⟩=Z (val k)) (hrep:∀k (hk:k<aa cs),eR G cs[k] (val k))  (hl:sj ti cs j=Z v) :
  ∃u,(loadVar t ⟨b,o+j,W⟩).run P w=.ok u w/\eR G v u:=by
 unfold sj at hl;by_cases ha:ti.isAgg=Y;rw[cr ha]at hl;split at hl;cases hl;have c:=run_loadCells (P:=P) w ⟨b,o+j,W⟩ ti.size (λk=>val (j+k)) (λk hk=>by rw[tL,fK];exact a _ (by omega));refine⟨_,by simp only[loadVar,ax,FR cb d,ha,vE,rj cb d,c,ao];rfl,?_⟩;have:=eR.agg (G:=G) ((cs.drop j).take ti.size) ((aT ti.size).map λk=>val (j+k)) (by simp;omega) (λi h h'=>by
  simp at h h';have:=hrep (j+i) (by omega);simpa using this)
 simpa using this;cases hl;rw[cc ha]at hl;obtain⟨hj,rfl⟩:=aq.1 hl;refine⟨val j,?_,hrep j hj⟩;simp only[loadVar,ax,FR cb d,eT _▸ha];simp[ a j hj]
def bY9{T:bY}(cb:rk P T){w:World}(h:Rel G σ w)(n:eR G x u)
  (ha:py T σ t x=Z v):y9 G w v ((fZ t u).run P w):=by
 cases n with
 |mp id' i j p hp=>
  simp only[py]at ha;cases ho:σ.bF id' with
  |none=>simp[ho]at ha
  |some o=>
   cases o with
   |row elem size es=>
    simp only[ho]at ha;cases he:es[i]? with
    |none=>simp[he]at ha
    |some cs=>
     simp only[he]at ha;cases c:T t with
     |none=>simp[c]at ha
     |some ti=>
      simp only[c]at ha;let ⟨a7,d⟩:=aq.1 he;have hv:p.mX=U:=by
       rcases h.wY ho hp with⟨_,e,s,h2⟩|⟨h2,_⟩
       cases h2;simp at a7;exact h2
      let ⟨_,_,cells,r,hs,z,hle,g⟩:=h.real ho hp hv;let ⟨hlen,f⟩:=g i a7;rw[d]at hlen;have hbound:∀k,k<aa cs->i*size+k<cells.size:=λk hk=>by rw[z];have:(i+1)*size<=p.cap*size:=b_ _ (by omega);rw[cG]at this;omega
      have:=Fh cb c (P:=P) (G:=G) (w:=w) p.block (i*p.size) cs (λk=>cells.getD (i*size+k) default) j
       (λk hk=>by
        rw[cell_of_row w _ _ cells elem _ r,hs];have:=hbound k hk;simp[this]) (λk hk=>by
        have m:=f k (by rw[d];exact hk) (hbound k hk);have:=hbound k hk;simp only[d]at m;simpa[this]using m) ha
      let ⟨u,hu,l⟩:=this;have q:y9 G w v (.ok u w):=⟨u,rfl,l⟩;simp only[fZ,fw,ax,bd,ao,hu];exact q
   |_=>simp[ho]at ha
 |fT cs a val hs himm hrep=>
  simp only[py]at ha;cases c:T t with
  |none=>simp[c]at ha
  |some ti =>simp only[c]at ha;let ⟨b,o,s⟩:=a;subst hs;let ⟨u,hu,l⟩:=Fh cb c (P:=P) (G:=G) (w:=w) b o cs val 0 (λk hk=>h.cell (himm k hk)) hrep ha;have q:y9 G w v (.ok u w):=⟨u,rfl,l⟩;simp only[fZ,fw,ax,bd,ao];rw[eC]at hu;rw[hu];exact q
 |_=>simp[py]at ha
def K5(g:Nat):Nat->dv (cu Value)
 | 0=>Z []
 |n+1=>match K5 g n,nO.cell g n with
  |some l,Z v=>Z (l++[v])
  |_,_=>W
def WW{g:Nat}:∀ {n:Nat} {l:cu Value},K5 g n=Z l->aa l=n/\∀i (h:i<aa l),nO.cell g i=Z l[i]
 | 0,l,h=>by cases h;exact⟨rfl,λi h=>by simp at h⟩
 |n+1,l,h=>by
  unfold K5 at h;split at h;rename_i l0 v h1 h2;cases h;let ⟨a,b⟩:=WW h1;refine⟨by simp[a],λi a7=>?_⟩;by_cases hl:i<aa l0;rw[jv hl];exact b i hl;have:i=n:=by simp at a7;omega
  subst this;simpa[a]using h2;cases h
def GY(T:bY)(t:TypeId)(g:Nat):dv bX :=
 match T t with
 |some ti=>match K5 g ti.size with
  |some l=>sj ti (l.map .b4) 0
  |none=>W
 |none=>W
def vW:bX->dv Nat
 | .b4 (.pointer (Z ⟨g,0,W⟩))=>Z g
 |_=>W
def tg(T:bY)(σ:bg)(t:TypeId)(x:bX):dv bX :=
 match vW x with
 |some g=>GY T t g
 |none=>py T σ t x
def On{g:Nat}(h:vW x=Z g):x=.b4 (.pointer (Z ⟨g,0,W⟩)):=by unfold vW at h;split at h;cases h;rfl;cases h
def Wv{T:bY}(cb:rk P T){w:World}(h:Rel G σ w)(b:eR G x u)
  (ha:tg T σ t x=Z v):y9 G w v ((fZ t u).run P w):=by
 unfold tg at ha;split at ha;rename_i g c;rw[On c]at b;cases b;unfold GY at ha;split at ha;rename_i ti d;split at ha;rename_i l hl;let ⟨i,e⟩:=WW hl;let ⟨u,hu,f⟩:=Fh cb d (P:=P) (G:=G) (w:=w) g 0 (l.map .b4) (l.getD · undef) 0 (λk hk=>by
  have a:k<aa l:=by simpa using hk
  rw[bj];refine h.cell (h.qE _ _ _ ?_);rw[e k a];simp[a]) (λk hk=>by
  have a:k<aa l:=by simpa using hk
  simp only[cK];have:l.getD k undef=l[k]:=by simp[a]
  rw[this];exact .b4 _) ha
 have q:y9 G w v (.ok u w):=⟨u,rfl,f⟩;simp only[fZ,fw,ax,bd,ao];rw[hu];exact q;cases ha;cases ha;exact bY9 cb h b ha
def ca8{T:bY}(cb:rk P T){w:World}(h:Rel G σ w){id:Nat}(a:eR G x u)
  (ha:tg T σ t x=Z v):o_ G σ w σ id v ((fZ t u).run P w):=(Wv cb h a ha).res h
def oR(w:World)(b:Nat)(o:Obj):World:={ w with heap:=w.heap.setIfInBounds b o }
def zG(w:World)(b:Nat)(o:Obj):(oR w b o).heap.size=w.heap.size:=by simp[oR]
def zz(w:World)(b:Nat)(o:Obj)(k:Nat)(h:k≠b):(oR w b o).heap[k]?=w.heap[k]?:=by simp[oR,fM];intro h';exact b8 h'.symm h
def Fs(w:World)(b:Nat)(o x:Obj)(h:w.heap[b]?=Z x):(oR w b o).heap[b]?=Z o:=by
 have:b<w.heap.size:=by
  rcases cU b w.heap.size with h'|h'
  exact h';rw[fF h']at h;cases h
 simp[oR,this]
def bo8(w:World)(b o:Nat)(v:Value)(cs:Array Value)(t:TypeId)(h:w.heap[b]?=Z (.cells cs t (0,0))) :
  w.setCell ⟨b,o,W⟩ v=oR w b (.cells (cs.setIfInBounds o v) t (0,0)):=by
 have a:b<w.heap.size:=by
  rcases cU b w.heap.size with h'|h'
  exact h';rw[fF h']at h;cases h
 unfold World.setCell oR;congr 1;apply mw;simp;intro i h1 h2;have a7:i<w.heap.size:=by simpa using h2
 rw[Array.getElem_modify,iS a7];by_cases e:b=i;subst e;have:w.heap[b]=.cells cs t (0,0):=by simpa[bo a]using h
 simp[this];simp[e]
def bG1(w:World)(b:Nat)(x y:Obj):oR (oR w b x) b y=oR w b y:=by simp[oR]
theorem Ms{P:Program}(b:Nat)(off:Nat)(t:TypeId):∀(vs:cu Value) (i:Nat) (cs:Array Value) (w:World),w.heap[b]?=Z (.cells cs t (0,0))->off+i+aa vs<=cs.size ->
  (∀v∈vs,v.oneCell'=Y)->∃a:Array Value,(storeCells ⟨b,off,W⟩ vs i).run P w=.ok () (oR w b (.cells a t (0,0)))/\a.size=cs.size /\
   ∀k,a[k]?=if off+i<=k/\k<off+i+aa vs then vs[k-(off+i)]? else cs[k]?
 | [],i,cs,w,c,_,_=>by
  refine⟨cs,?_,rfl,λk=>by simp;intro h1 h2;omega⟩;have:oR w b (.cells cs t (0,0))=w:=by
   have f:b<w.heap.size:=by
    rcases cU b w.heap.size with h'|h'
    exact h';rw[fF h']at c;cases c
   have l:w.heap[b]=.cells cs t (0,0):=by simpa[bo f]using c
   unfold oR;congr 1;apply mw;simp;intro j h1 h2;rw[iS h2];by_cases e:b=j;subst e;simp[l];simp[e]
  rw[this];simp[storeCells]
 |v::vs,i,cs,w,c,hlen,d=>by
  simp only[aA]at hlen;have hc:w.cell? ⟨b,off+i,W⟩=Z (cs[off+i]'(by omega)):=by rw[cell_of_row w _ _ cs t _ c];exact bo _
  have g:w.frozen? ⟨b,off+i,W⟩=U:=frozen_of_row w b _ cs t c;have qJ:(store (kr ⟨b,off,W⟩ i) v).run P w=.ok () (w.setCell ⟨b,off+i,W⟩ v):=by rw[tL,run_store P w _ v .plain (d v (by simp)),hc];simp[g]
  rw[bo8 w b _ v cs t c]at qJ;let ⟨a,h1,h2,m⟩:=Ms (P:=P) b off t vs (i+1) (cs.setIfInBounds (off+i) v) (oR w b (.cells (cs.setIfInBounds (off+i) v) t (0,0)))
   (Fs w b _ _ c) (by simp;omega) (λu hu=>d u (by simp[hu]))
  refine⟨a,?_,by rw[h2];simp,λk=>?_⟩;simp only[storeCells,ax,qJ,ao,h1,bG1];rw[m k];by_cases e:k=off+i;subst e;rw[cc (by omega),cr (by simp),fM,cr rfl,cr (by omega)];simp;by_cases h:off+(i+1)<=k/\k<off+(i+1)+aa vs;rw[cr h,cr (by simp;omega)];obtain⟨n,o⟩:∃n,k-(off+i)=n+1:=⟨k-(off+i)-1,by omega⟩;rw[o];simp;congr 1;omega;rw[cc h,cc (by simp;omega),fM,cc (by omega)]
def qz(cs:eX)(j:Nat)(vs:eX):eX:=cs.take j++vs++cs.drop (j+aa vs)
def Nz(cs:eX)(j:Nat)(vs:eX)(h:j+aa vs<=aa cs)(k:Nat):(qz cs j vs)[k]?=if j<=k/\k<j+aa vs then vs[k-j]? else cs[k]?:=by unfold qz;rw[List.append_assoc,dG];simp only[cQ];by_cases h1:k<min j (aa cs);rw[cr h1,cc (by omega),ku,cr (by omega)];rw[cc h1,dG];by_cases h2:k-min j (aa cs)<aa vs;rw[cr h2,cr (by omega)];congr 1;omega;rw[cc h2,cc (by omega),iT];congr 1;omega
def bG9(cs:eX)(j:Nat)(vs:eX)(h:j+aa vs<=aa cs):aa (qz cs j vs)=aa cs:=by simp[qz];omega
def sq(T:bY)(σ:bg)(t:TypeId)(x v:bX):dv bg :=
 match x,v.cells,T t with
 | .mp id i j,Z vs,Z ti=>
  match σ.bF id with
  |some (.row elem size es)=>match es[i]? with
   |some cs=>ite (aa vs=ti.size/\j+aa vs<=aa cs/\vs.all bX.one=Y) (Z (σ.set id (.row elem size (es.set i (qz cs j vs))))) <|none
   |none=>W
  |_=>W
 |_,_,_=>W
def ao2{es:cu eX}{cells:Array Value}(a:∀i (h:i<aa es),es[i].length=size/\∀j (hj:j<es[i].length) (h':i*size+j<cells.size),eR G es[i][j] cells[i*size+j])
     (he:es[i]?=Z cs) (hc:cs[j]?=Z c) {v:Value} (hv:cells[i*size+j]?=Z v):eR G c v:=by
 obtain⟨a7,rfl⟩:=aq.1 he;obtain⟨hj,rfl⟩:=aq.1 hc;obtain⟨hk,rfl⟩:=aP.1 hv;exact(a i a7).2 j hj hk
def aN1{a b:Nat}(h:i*size+j=a*size+b)(hj:j<size)(c:b<size):i=a/\j=b:=by
 have h1:(i*size+j) / size=i:=by rw[fY,lx (by omega),lg hj];simp
 have h2:(a*size+b) / size=a:=by rw[fY,lx (by omega),lg c];simp
 have:i=a:=by rw[<-h1,<-h2,h]
 subst this;exact⟨rfl,by omega⟩
def cc3{T:bY}(cb:rk P T){w:World}(h:Rel G σ w){y:Value}(hx:eR G x u)(hy:eR G v y)
  (ha:sq T σ t x v=Z σ'):∃w',(ly t u y).run P w=.ok () w'/\Rel G σ' w'/\Fr G σ w G σ' w':=by
 unfold sq at ha;split at ha
 next id i j vs ti l ht=>
  split at ha
  next elem size es ho=>
   split at ha
   next cs he=>
    split at ha
    next m=>
     let ⟨h1,h2,O⟩:=m
     cases ha;cases hx with
     |mp id i j p hp=>
     have a:=hy.cells l;let ⟨a7,H⟩:=aq.1 he;have hv:p.mX=U:=by
      rcases h.wY ho hp with⟨_,e,s,h2⟩|⟨h2,_⟩
      .cases h2;simp at a7
      exact h2
     let ⟨_,_,cells,Q,hs,R,hle,c⟩:=h.real ho hp hv
     have hlen:aa cs=size:=by rw[<-H];exact(c i a7).1
     have q:(i+1)*size<=cells.size:=by rw[R];exact b_ _ (by omega)
     rw[cG]at q;let ⟨n,r,I,k5⟩:=Ms (P:=P) p.block (i*p.size+j) elem y.cells.toList 0 cells w Q (by rw[a.1,hs];omega)
      (λz hz=>by
       obtain⟨k,hk,rfl⟩:=bk hz;have B:k<aa vs:=by rw[<-a.1];exact hk
       exact(a.2 k B hk).one (by rw[aj]at O;exact O _ (au B)))
     refine⟨oR w p.block (.cells n elem (0,0)),?_,h.write ho hp hv (.cells n elem (0,0)) _ rfl rfl rfl (zG _ _ _) (λk hk=>zz _ _ _ _ hk) (Fs _ _ _ _ Q) ⟨n,rfl,hs,by rw[I,R],by simp;exact hle,λd J=>?_⟩,Fr.write ho hp hv _ (zG _ _ _) (λk hk=>zz _ _ _ _ hk)⟩
     .simp only[ly,fw,ax,bd,ao,storeVar,rj cb ht]
      rw[cc (by have:=a.1;simp at this⊢;omega)];simpa using r
     have o:d<aa es:=by simpa using J
     have C:aa ((es.set i (qz cs j vs))[d])=size:=by
      rw[List.getElem_set];split
      .rw[bG9 _ _ _ h2,hlen]
      exact(c d o).1
     refine⟨C,λf K hk=>?_⟩;have D:f<size:=by rw[<-C];exact K
     have g:=k5 (d*size+f);rw[bo hk]at g;have hL:=a.1;simp only[eC,hs]at g;by_cases e:d=i
     .subst e
      have E:=Nz cs j vs h2 f;have b:((es.set d (qz cs j vs))[d])[f]?=Z ((es.set d (qz cs j vs))[d][f]):=af _;simp only[List.getElem_set_self]at b;rw[E]at b;by_cases S:j<=f/\f<j+aa vs
      .rw[cr S]at b
       rw[cr (by omega)]at g;have:d*size+f-(d*size+j)=f-j:=by omega
       rw[this]at g;let ⟨z,M,N⟩:=a.get b;rw[M]at g;cases g;simpa using N
      rw[cc S]at b;rw[cc (by omega)]at g;have:=ao2 c he b g.symm;simpa using this
     rw[cc (λhh=>by
      have:d*size+f=i*size+(d*size+f-i*size):=by omega
      exact e (aN1 this D (by omega)).1)]at g
     have b:(es[d])[f]?=Z (es[d][f]'(by rw[(c d o).1];exact D)):=af _;have:=ao2 c (af o) b g.symm;simp only[List.getElem_set_ne (kx e)];exact this
    cases ha
   cases ha
  cases ha
 cases ha
def wB(T:bY)(s:TypeId)(x:bX)(field:Nat):dv bX :=
 match T s with
 |some { j4:=.struct fields,.. }=>
  match fields[field]? with
  |some f=>match T f.type with
   |some a=>ite (a.size=0) W <|match x with
    | .mp id i j=>Z (.mp id i (j+f.offset))
    | .fT cs=>ite (f.offset<=aa cs) (Z (.fT (cs.drop f.offset))) <|none
    |_=>W
   |none=>W
  |none=>W
 |_=>W
def eR.ao1{b o:Nat}(h:eR G (.fT cs) (.pointer (Z ⟨b,o,W⟩)))(n:Nat)(c:n<=aa cs):eR G (.fT (cs.drop n)) (.pointer (Z ⟨b,o+n,W⟩)):=by
 cases h with
 |fT cs a val hs himm hrep=>
  refine .fT _ _ (λj=>val (n+j)) rfl (λj hj=>?_) (λj hj=>?_)
  grind
  grind
def Vn{T:bY}(cb:rk P T){w:World}(h:Rel G σ w){s:TypeId}(c:eR G x u)
  (ha:wB T s x field=Z v):y9 G w v ((ia s u field).run P w):=by
 unfold wB at ha;split at ha;rename_i fields size zero bytes _ hs;split at ha;rename_i f hf;split at ha;rename_i j d;split at ha;cases ha;rename_i e;have key:∀b o,u=.pointer (Z ⟨b,o,W⟩)->(ia s u field).run P w=.ok (.pointer (Z ⟨b,o+f.offset,W⟩)) w:=λb o hu=>by subst hu;simp only[ia,ax,oG cb hs,ao,hf,fw,bd,fieldPlace,rj cb d];rw[cc e];simp[tL]
 split at ha;cases ha;cases c with
 |mp _ _ _ p hp=>exact⟨_,key _ _ rfl,by rw[fK];exact .mp _ _ _ p hp⟩
 split at ha;rename_i cs hle;cases ha;have g:=c;cases c with
 |fT cs a val i himm hrep =>let ⟨b,o,sp⟩:=a;subst i;rw[key _ _ rfl];exact⟨_,rfl,g.ao1 _ hle⟩
 cases ha;cases ha;cases ha;cases ha;cases ha
def bq5{T:bY}(cb:rk P T){w:World}(h:Rel G σ w){s:TypeId}{id:Nat}(a:eR G x u)
  (ha:wB T s x field=Z v):o_ G σ w σ id v ((ia s u field).run P w):=(Vn cb h a ha).res h
def Ay(T:bY)(t:TypeId)(cs:eX)(off:Nat):dv bX :=
 match T t with
 |some ti=>sj ti cs off
 |none=>W
def aK0{T:bY}(cb:rk P T){w:World}(b:hE G cs vs)(ha:Ay T t cs off=Z v) :
  ∃u,(part t vs.toArray off).run P w=.ok u w/\eR G v u:=by
 unfold Ay at ha;split at ha;rename_i ti d;unfold sj at ha;by_cases a:ti.isAgg=Y;rw[cr a]at ha;split at ha;refine⟨_,by simp only[part,ax,FR cb d,a,vE,rj cb d,ao];rfl,?_⟩;have c:=(b.drop off).take ti.size;have:=eR.agg (G:=G) _ _ c.1 c.2
 grind
 cases ha;rw[cc a]at ha;let ⟨u,hu,c⟩:=b.get ha;refine⟨u,?_,c⟩;simp only[part,ax,FR cb d,eT _▸a];simp[hu];cases ha
def sH(T:bY)(t:TypeId)(x ix:bX):dv bX :=
 match T t,ix with
 |some { j4:=.slice elem,.. },.b4 (.int _ n)=>
  match T elem with
  |some a=>
   match x with
   | .ms id size off len=>ite (0<=n/\n<len/\size=a.size) (Z (.mp id (off+n.toNat) 0)) <|none
   | .rs es=>ite (0<=n) (match es[n.toNat]? with
     |some cs=>ite (aa cs=a.size) (Z (.fT cs)) <|none
     |none=>W) <|none
   |_=>W
  |none=>W
 |some { j4:=.array len elem,.. },.b4 (.int _ n)=>
  match T elem with
  |some a=>ite (0<=n/\n<len) (match x with
    | .mp id i j=>Z (.mp id i (j+n.toNat*a.size))
    | .fT cs=>ite (n.toNat*a.size<=aa cs) (Z (.fT (cs.drop (n.toNat*a.size)))) <|none
    |_=>W) <|none
  |none=>W
 |_,_=>W
def bG4{T:bY}(cb:rk P T){w:World}(h:Rel G σ w){id:Nat}{y:Value}(d:eR G x u)(q:eR G ix y)
  (ha:sH T t x ix=Z v):o_ G σ w σ id v ((gu t u y).run P w):=by
 unfold sH at ha;split at ha;rename_i elem _ _ _ _ k n e;split at ha;rename_i f he;cases q;split at ha;rename_i id' size off len;split at ha;cases d with
 |oh=>omega
 |ms _ _ _ _ p hp hv hs a c r hoff hl hsp=>
  rw[r (by omega)];simp only[gu,asIntOf,ax,bd,ao,oG cb e];rw[cr (by omega)];simp only[ax,rj cb he,tL];refine o_.same ?_ h;have:=eR.mp (G:=G) id' (off+n.toNat) 0 p hp
  grind
 cases ha;split at ha;split at ha;rename_i cs g;split at ha;cases ha;let ⟨a7,s⟩:=aq.1 g;cases d with
 |q9=>simp at a7
 |rs es a cap size val hs hc hl himm hrep=>
  have hs:=hs (by omega);let ⟨b,o,sp⟩:=a;subst hs;simp only[gu,asIntOf,ax,bd,ao,oG cb e];rw[cr (by omega)];simp only[ax,rj cb he,tL];refine o_.same ?_ h;refine .fT _ _ (val n.toNat ·) rfl (λj hj=>?_) (λj hj=>?_)
  grind
  grind
 cases ha;cases ha;cases ha;cases ha;cases ha;rename_i len elem _ _ _ _ k n e;split at ha;rename_i f he;cases q;split at ha;rename_i z;have key:∀b o,u=.pointer (Z ⟨b,o,W⟩)->(gu t u (.int k n)).run P w=.ok (.pointer (Z ⟨b,o+n.toNat*f.size,W⟩)) w:=λb o hu=>by subst hu;simp only[gu,asIntOf,ax,bd,ao,oG cb e,fw];rw[cr z];simp[rj cb he,tL]
 split at ha;rename_i id' i j;cases ha;cases d with
 |mp _ _ _ p hp =>rw[key _ _ rfl];refine o_.same ?_ h;have:=eR.mp (G:=G) id' i (j+n.toNat*f.size) p hp;rwa [<-fK]at this
 split at ha;rename_i cs hle;cases ha;have l:=d;cases d with
 |fT cs a val m himm hrep =>let ⟨b,o,sp⟩:=a;subst m;rw[key _ _ rfl];exact o_.same (l.ao1 _ hle) h
 cases ha;cases ha;cases ha;cases ha;cases ha
def vZ(T:bY)(t:TypeId)(x ix:bX):dv bX :=
 match T t,x,ix with
 |some { j4:=.array len elem,.. },.agg cs,.b4 (.int _ n)=>
  match T elem with
  |some a=>ite (0<=n/\n<len) (Ay T elem cs (n.toNat*a.size)) <|none
  |none=>W
 |some { j4:=.string,.. },.b4 (.string s),.b4 (.int _ n)=>
  ite (0<=n) (match s[n.toNat]? with
   |some b=>Z (.b4 (.int .u8 b.toNat))
   |none=>W) <|none
 |_,_,_=>W
def aI7{T:bY}(cb:rk P T){w:World}(h:Rel G σ w){id:Nat}{y:Value}(c:eR G x u)(d:eR G ix y)
  (ha:vZ T t x ix=Z v):o_ G σ w σ id v ((jT t u y).run P w):=by
 unfold vZ at ha;split at ha;rename_i len elem _ _ _ _ cs k n a;split at ha;split at ha;cases d;cases c with
 |agg cs vs h1 h2=>
  let ⟨z,hz,g⟩:=aK0 cb (P:=P) (w:=w) ⟨h1,h2⟩ ha;simp only[jT,asIntOf,ax,bd,oG cb a]
  grind[ax,rj,ao,o_.same]
 cases ha;cases ha;rename_i _ _ _ _ s k n a;split at ha;rename_i e;split at ha;rename_i b f;cases ha;cases d;cases c;simp only[jT,asIntOf,ax,bd,ao,oG cb a,e,f];exact o_.same (.b4 _) h;cases ha;cases ha;cases ha
def bound(len:Nat)(x:dv bX)(a:Nat):dv Nat :=
 match x with
 |none=>Z a
 |some (.b4 (.int _ n))=>ite (0<=n/\n<=len) (Z n.toNat) <|none
 |_=>W
def uB(T:bY)(t:TypeId)(x:bX)(b7 a7 pP:dv bX):dv bX :=
 match pP,T t with
 |none,Z { j4:=.slice elem,.. }=>
  match T elem,x with
  |some a,.ms id size off len=>ite (size=a.size) (match bound len a7 len with
    |some h=>match bound h b7 0 with
     |some l=>Z (.ms id size (off+l) (h-l))
     |none=>W
    |none=>W) <|none
  |some a,.rs es=>match bound (aa es) a7 (aa es)with
   |some h=>match bound h b7 0 with
    |some l=>ite (es.all (·.length==a.size)) (Z (.rs ((es.take h).drop l))) <|none
    |none=>W
   |none=>W
  |some _,.b4 (.slice W 0 0)=>match bound 0 a7 0 with
   |some h=>match bound h b7 0 with
    |some _=>Z (.b4 (.slice W 0 0))
    |none=>W
   |none=>W
  |_,_=>W
 |none,Z { j4:=.string,.. }=>
  match x with
  | .b4 (.string s)=>match bound s.size a7 s.size with
   |some h=>match bound h b7 0 with
    |some l=>Z (.b4 (.string (s.extract l h)))
    |none=>W
   |none=>W
  |_=>W
 |_,_=>W
def xg(G:ca)(x:dv bX)(v:dv Value):Prop :=
 match x,v with
 |none,W=>True
 |some a,Z b=>eR G a b
 |_,_=>False
def NU{len d:Nat}{x:dv bX}{v:dv Value}(c:xg G x v)(b:bound len x d=Z n) :
  (v=W/\n=d)\/∃k m,v=Z (.int k m)/\0<=m/\m<=len/\n=m.toNat:=by
 cases x;cases v with
 |none=>simp[bound]at b;exact .inl ⟨rfl,b.symm⟩
 |some _=>exact c.elim
 rename_i a;cases v;exact c.elim;unfold bound at b;split at b;cases ‹Z a=W›;rename_i k m e;cases e;split at b;cases c
 grind
 cases b;cases b
def C4{w:World}(isSlice:Bool){len cap h l:Nat}{a7 b7:dv bX}{c:dv Value}(g:xg G a7 hv)(hl:xg G b7 c)(i:len<=cap)
  (j:bound len a7 len=Z h) (d:bound h b7 0=Z l):(fj isSlice len cap c hv W).run P w=.ok (l,h,cap) w/\h<=len/\l<=h:=by
 rcases NU g j with⟨rfl,rfl⟩|⟨k,m,rfl,h1,h2,rfl⟩
 rcases NU hl d with⟨rfl,rfl⟩|⟨n,e,rfl,b,f,rfl⟩
 exact⟨by simp[fj],by omega,by omega⟩;simp[fj,iD,asIntOf,b,f];have a:m<=(cap:Int):=by omega
 rcases NU hl d with⟨rfl,rfl⟩|⟨n,e,rfl,b,f,rfl⟩
 exact⟨by simp[fj,iD,asIntOf,h1,a],by omega,by omega⟩;refine⟨?_,by omega,by omega⟩;have o:e<=max m 0:=by omega
 simp[fj,iD,asIntOf,h1,a,b,o]
def bX9{T:bY}(cb:rk P T){w:World}(h:Rel G σ w){id:Nat}{b7 a7 pP:dv bX}{J B:dv Value}(C:eR G x u)
  (hl:xg G b7 J) (r:xg G a7 hv) (hm:xg G pP B)
  (ha:uB T t x b7 a7 pP=Z v):o_ G σ w σ id v ((eQ t u J hv B).run P w):=by
 unfold uB at ha;split at ha
 next elem _ _ _ _ n=>
  cases B with
  |some _=>exact hm.elim
  |none=>
  split at ha
  next D i size off len he=>
   split at ha
   case isFalse=>cases ha
   rename_i E;split at ha
   next h' f=>
    split at ha
    next l g=>
     cases ha;cases C with
     |oh _ _ p hp k=>
      let ⟨d,q,z⟩:=C4 (P:=P) (w:=w) (cap:=0) Y r hl (di _) f g
      obtain rfl:h'=0:=by omega
      obtain rfl:l=0:=by omega
      simp only[eQ,gv,ax,oG cb n,ao,d,rj cb he];exact o_.same (.oh _ _ p hp k) h
     |ms _ _ _ _ p hp k hz a c M hoff H hsp=>
      let ⟨d,q,z⟩:=C4 (P:=P) (w:=w) (cap:=c) Y r hl H f g
      have I:p.size=D.size:=by rw[hz];exact E
      simp only[eQ,gv,ax,oG cb n,ao,d,rj cb he];refine o_.same ?_ h;by_cases e:c=l
      .rw[cr e]
       exact .ms _ _ _ _ p hp k hz a (c-l) (λN=>by omega) (by omega) (by omega) hsp
      rw[cc e,M (by omega)];simp only[ai,tL];exact .ms _ _ _ _ p hp k hz _ (c-l) (λ_=>by rw[<-I,cG]) (by omega) (by omega) rfl
    cases ha
   cases ha
  next D es he=>
   split at ha
   next h' f=>
    split at ha
    next l g=>
     split at ha
     next K=>
      cases ha;cases C with
      |q9=>
       let ⟨d,q,z⟩:=C4 (P:=P) (w:=w) (cap:=0) Y r hl (di _) f g
       simp at q;subst q;obtain rfl:l=0:=by omega
       simp only[eQ,gv,ax,oG cb n,ao,d,rj cb he];exact o_.same .q9 h
      |rs es a cap size val hs hc hlen himm hrep=>
       let ⟨d,q,z⟩:=C4 (P:=P) (w:=w) (cap:=cap) Y r hl hc f g
       let ⟨b,o,sp⟩:=a
       simp only[eQ,gv,ax,oG cb n,ao,d,rj cb he];refine o_.same ?_ h;have m:aa ((es.take h').drop l)=h'-l:=by simp;omega
       have k5:∀i (a7:i<aa ((es.take h').drop l)),((es.take h').drop l)[i]=es[l+i]'(by rw[m]at a7;omega):=λi a7=>by simp
       by_cases e:cap=l
       .rw[cr e,<-m]
        exact .rs _ _ _ size val (λh=>b8 (by omega) h) (by rw[m];omega) (λi a7=>by rw[m]at a7;omega) (λi j a7=>by rw[m]at a7;omega) (λi j a7=>by rw[m]at a7;omega)
       rw[cc e];have hs:=hs (by omega);simp at hs;subst hs;simp only[ai,tL];rw[<-m];refine .rs _ _ _ size (λi j=>val (l+i) j) (λ_=>rfl) (by rw[m];omega) (λi a7=>by rw[k5 i a7];exact hlen _ _) (λi j a7 hj=>?_) (λi j a7 hj=>?_)
       .grind
       grind
     cases ha
    cases ha
   cases ha
  next D he=>
   split at ha
   next h' f=>
    split at ha
    next l g=>
     cases ha;cases C;let ⟨d,q,z⟩:=C4 (P:=P) (w:=w) (cap:=0) Y r hl (di _) f g;obtain rfl:h'=0:=by omega
     obtain rfl:l=0:=by omega
     simp only[eQ,gv,ax,oG cb n,ao,d,rj cb he];exact o_.same (.b4 _) h
    cases ha
   cases ha
  cases ha
 next _ _ _ _ n=>
  cases B with
  |some _=>exact hm.elim
  |none=>
  split at ha
  next s=>
   split at ha
   next h' f=>
    split at ha
    next l g=>
     cases ha;cases C;let ⟨d,q,z⟩:=C4 (P:=P) (w:=w) (cap:=s.size) U r hl (ay _) f g;simp only[eQ,gv,ax,oG cb n,ao,Option.isSome_none,aF,l4,d];exact o_.same (.b4 _) h
    cases ha
   cases ha
  cases ha
 cases ha
def yc(op:BinOp)(x y:Value):dv Value :=
 match x,y with
 | .int k a,.int c b=>
  match op with
  | .shl=>ite (b<0) W <|some (.int k (k.wrap (a*2^(min b.toNat k.bits))))
  | .shr=>ite (b<0) W <|some (.int k (a.fdiv (2^(min b.toNat k.bits))))
  |_=>ite (k≠c) W <|match op with
   | .add=>Z (.int k (k.wrap (a+b)))
   | .sub=>Z (.int k (k.wrap (a-b)))
   | .mul=>Z (.int k (k.wrap (a*b)))
   | .quo=>ite (b=0) W <|some (.int k (k.wrap (a.tdiv b)))
   | .rem=>ite (b=0) W <|some (.int k (a.tmod b))
   | .and=>Z (.int k (k.wrap (aW k.bits a &&& aW k.bits b).toNat))
   | .or=>Z (.int k (k.wrap (aW k.bits a |||aW k.bits b).toNat))
   | .xor=>Z (.int k (k.wrap (aW k.bits a ^^^ aW k.bits b).toNat))
   | .andNot=>Z (.int k (k.wrap (aW k.bits a &&& ~~~(aW k.bits b)).toNat))
   | .eql=>Z (.bool (a==b))
   | .neq=>Z (.bool (a != b))
   | .lss=>Z (.bool (a<b))
   | .leq=>Z (.bool (a<=b))
   | .gtr=>Z (.bool (a > b))
   | .geq=>Z (.bool (a>=b))
   |_=>W
 | .string a,.string b=>
  match op with
  | .add=>ite (((a.size+b.size:Nat):Int) > du.max) W <|some (.string (a++b))
  | .eql=>Z (.bool (a.toList==b.toList))
  | .neq=>Z (.bool !(a.toList==b.toList))
  |_=>W
 |_,_=>W
theorem bc1{P:Program}{w:World}{op:BinOp}{t:TypeId}{x y v:Value}{d e:Operand}(h:yc op x y=Z v) :
  (do eqGuard op t d e x y;binOp op t x y:Sem Value).run P w=.ok v w:=by
 unfold yc at h;split at h
 .rename_i k a i b
  have f:(eqGuard op t d e (.int k a) (.int i b)).run P w=.ok () w:=by unfold eqGuard;simp
  simp only[ax,f];cases op
  case shl =>simp only at h;split at h;cases h;rename_i c;cases h;simp[binOp,Op.shift,c]
  case shr =>simp only at h;split at h;cases h;rename_i c;cases h;simp[binOp,Op.shift,c]
  all_goals
   simp only at h;split at h;cases h;rename_i c;obtain rfl:k=i:=Classical.not_not.1 c
  case h_1.quo.isFalse =>split at h;cases h;rename_i g;cases h;simp[binOp,Op.intDiv,g]
  case h_1.rem.isFalse =>split at h;cases h;rename_i g;cases h;simp[binOp,Op.intDiv,g]
  all_goals
   cases h;simp[binOp,Op.intArith,Op.intBits,Op.intCmp]
 .rename_i a b
  have f:(eqGuard op t d e (.string a) (.string b)).run P w=.ok () w:=by unfold eqGuard;simp
  simp only[ax,f];cases op<;>simp only at h<;>first
   | (cases h;done)
   | (cases h;simp[binOp,mG];done)
   | (split at h;cases h;rename_i c;cases h;simp only[binOp,mG];rw[cc c];rfl)
 cases h
def bX.I8:∀ {cs:eX} {l:eD} {vs:cu Value},bX.vf cs=Z l->hE G cs vs->vs=l.map (bK .i64)
 | [],l,vs,h,a=>by simp[bX.vf]at h;subst h;rw[a.tr];rfl
 |c::cs,l,vs,h,a=>by obtain⟨v,b,rfl,h1,h2⟩:=a.cons_inv;unfold bX.vf at h;split at h;rename_i e;cases e;rename_i n d e;cases e;split at h;rename_i f hl;cases h;cases h1;rw[bX.I8 hl h2];rfl;cases h;cases h
def bX.isNil:bX->dv Bool
 | .b4 (.slice W 0 0)=>Z Y
 | .rs (_::_)=>Z U
 | .ms _ _ _ (_+1)=>Z U
 |_=>W
def bX.bl5{b:Bool}(h:x.isNil=Z b)(d:eR G x u):∃a l c,u=.slice a l c/\a.isNone=b:=by unfold bX.isNil at h;split at h;cases h;cases d;exact⟨_,_,_,rfl,rfl⟩;cases h;cases d;exact⟨_,_,_,rfl,rfl⟩;cases h;cases d;exact⟨_,_,_,rfl,rfl⟩;cases h
def MG(w:World)(d:Nat)(t elem:TypeId)(a:dv Addr)(l c:Nat)(hu:P.underlying t=Z (.slice elem)) :
  (eP (d+1) t (.slice a l c) (.slice W 0 0)).run P w=.ok a.isNone w:=by
 cases a;simp[eP,underlying,hu];simp[eP,underlying,hu]
def q7(T:bY)(op:BinOp)(t:TypeId)(x y:bX):dv bX :=
 match x,y with
 |x,.b4 (.slice W 0 0)=>
  match T t,x.isNil with
  |some { j4:=.slice _,.. },Z b=>match op with
   | .eql=>Z (.b4 (.bool b))
   | .neq=>Z (.b4 (.bool !b))
   |_=>W
  |_,_=>W
 | .b4 (.bool a),.b4 (.bool b)=>
  match T t with
  |some { j4:=.bool,.. }=>match op with
   | .eql=>Z (.b4 (.bool (a==b)))
   | .neq=>Z (.b4 (.bool !(a==b)))
   |_=>W
  |_=>W
 | .b4 a,.b4 b=>match yc op a b with
  |some v=>Z (.b4 v)
  |none=>W
 | .agg cs,.agg c=>
  match bX.vf cs,bX.vf c,T t with
  |some az,Z fA,Z ti=>ite (ti.flat=Z (aa az)/\aa fA=aa az) (match op with
    | .eql=>Z (.b4 (.bool (az==fA)))
    | .neq=>Z (.b4 (.bool !(az==fA)))
    |_=>W) <|none
  |_,_,_=>W
 |_,_=>W
def aV1{T:bY}(cb:rk P T){w:World}(h:Rel G σ w){op:BinOp}{id:Nat}{y:bX}{g i:Operand}(j:eR G x u)(k:eR G y z)
  (ha:q7 T op t x y=Z v):o_ G σ w σ id v ((do eqGuard op t g i u z;binOp op t u z:Sem Value).run P w):=by
 unfold q7 at ha;split at ha
 .cases k
  split at ha
  next e s=>
   obtain⟨a,l,c,rfl,r⟩:=bX.bl5 s j;have f:(eqGuard op t g i (.slice a l c) (.slice W 0 0)).run P w=.ok () w:=by unfold eqGuard;simp
   simp only[ax,f,ao];have hu:=cb.j4 t _ e;split at ha
   .cases ha
    simp only[binOp,gG,eJ,ax,MG w 9999 t _ a l c hu,r];exact o_.same (.b4 _) h
   .cases ha
    simp only[binOp,gG,eJ,ax,MG w 9999 t _ a l c hu,r];exact o_.same (.b4 _) h
   cases ha
  cases ha
 next a b=>
  cases j;cases k;have f:(eqGuard op t g i (.bool a) (.bool b)).run P w=.ok () w:=by unfold eqGuard;simp
  simp only[ax,f];split at ha
  next e=>
   have hu:=cb.j4 t _ e;split at ha
   .cases ha
    simp only[binOp,gG,eJ,ax,run_equalIn_bool' w 9999 t a b hu,ao];exact o_.same (.b4 _) h
   .cases ha
    simp only[binOp,gG,eJ,ax,run_equalIn_bool' w 9999 t a b hu,ao];exact o_.same (.b4 _) h
   cases ha
  cases ha
 next a b _=>
  cases j;cases k;split at ha
  next D hv=>
   cases ha;rw[bc1 hv];exact o_.same (.b4 _) h
  cases ha
 next cs E=>
  split at ha
  next az fA ti h1 h2 e=>
   split at ha
   next hc=>
    let ⟨hf,hlen⟩:=hc
    let ⟨m,heq⟩:=cb.flat t ti _ e hf
    cases j with
    |agg _ xs n o=>
    cases k with
    |agg _ ys p q=>
    have B:=bX.I8 h1 ⟨n,o⟩;have C:=bX.I8 h2 ⟨p,q⟩;subst B C;have d:=(heq az fA w rfl hlen).1;have f:(eqGuard op t g i (.agg (az.map (bK .i64)).toArray) (.agg (fA.map (bK .i64)).toArray)).run P w=.ok () w:=by unfold eqGuard;simp[m]
    simp only[ax,f];split at ha
    .cases ha
     simp only[binOp,gG,eJ,ax,d,ao];exact o_.same (.b4 _) h
    .cases ha
     simp only[binOp,gG,eJ,ax,d,ao];exact o_.same (.b4 _) h
    cases ha
   cases ha
  cases ha
 cases ha
def wD(op:UnOp)(x:bX):dv bX :=
 match op,x with
 | .neg,.b4 (.int k n)=>Z (.b4 (.int k (k.wrap (0-n))))
 | .not,.b4 (.bool b)=>Z (.b4 (.bool !b))
 |_,_=>W
def bd8{w:World}(h:Rel G σ w){op:UnOp}{id:Nat}(a:eR G x u)(ha:wD op x=Z v) :
  o_ G σ w σ id v ((Op.unary op u).run P w):=by
 unfold wD at ha;split at ha;cases ha;cases a;exact o_.same (.b4 _) h;cases ha;cases a;exact o_.same (.b4 _) h;cases ha
def xV:cu eX->dv eD
 | []=>Z []
 | [.b4 (.int .u8 n)]::l=>match xV l with
  |some al=>Z (n::al)
  |none=>W
 |_=>W
def zP(l:eD):ByteArray:=⟨(l.map λn=>jU n.toNat).toArray⟩
def an9:∀ {es:cu eX} {al:eD},xV es=Z al->aa al=aa es/\∀i (h:i<aa es) (h':i<aa al),es[i]=[.b4 (.int .u8 al[i])]
 | [],al,h=>by simp only[xV,ah]at h;subst h;exact⟨rfl,λi h=>by simp at h⟩
 |r::es,al,h=>by unfold xV at h;split at h;rename_i e;cases e;rename_i n l e;cases e;split at h;rename_i ms hm;cases h;let ⟨h1,h2⟩:=an9 hm;refine⟨by simp[h1],λi a7 a=>?_⟩;cases i;rfl;rename_i i;simpa using h2 i (by simpa using a7) (by simpa using a);cases h;cases h
def Wc:∀(l:eD) (b:ByteArray),l.foldl (λr n=>r.push (jU n.toNat)) b=⟨(b.data.toList++l.map λn=>jU n.toNat).toArray⟩
 | [],b=>by simp
 |n::l,b=>by rw[iY,Wc l];congr 1;simp
def w0(T:bY)(src dst:TypeId)(x:bX):dv bX :=
 match T src,T dst,x with
 |some _,Z { j4:=.int k,.. },.b4 (.int _ n)=>Z (.b4 (.int k (k.wrap n)))
 |some { j4:=.slice e,.. },Z { j4:=.string,.. },.rs es=>match T e with
  |some { j4:=.int .u8,.. }=>match xV es with
   |some l=>Z (.b4 (.string (zP l)))
   |none=>W
  |_=>W
 |_,_,_=>W
def aQ1{T:bY}(cb:rk P T){w:World}(h:Rel G σ w){src dst:TypeId}{id:Nat}(p:eR G x u)(ha:w0 T src dst x=Z v) :
  o_ G σ w σ id v ((convert src dst u).run P w):=by
 unfold w0 at ha;split at ha;rename_i D k _ _ _ _ E n hs hd;cases ha;cases p;simp only[convert,ax,oG cb hs,oG cb hd];exact o_.same (.b4 _) h;rename_i e _ _ _ _ _ _ _ _ es hs hd;split at ha;rename_i _ _ _ _ he;split at ha;rename_i al g;cases ha;let ⟨g1,g2⟩:=an9 g;have r:=cb.j4 _ _ hs;have s:=cb.j4 _ _ hd;have t:=cb.j4 _ _ he;have key:(convert src dst u).run P w=.ok (.string (zP al)) w:=by
  cases p with
  |q9=>
   have:al=[]:=by simpa using g1
   subst this;exact run_convert_bytes_nil (w:=w) src e r t 0 0 dst s
  |rs _ a cap size val hsp hc hlen himm hrep=>
   rw[run_convert_bytes_string w src dst e _ _ _ r t s,run_bytesToString w a _ _ al,Wc];rfl;have:=run_loadCells_list (P:=P) (w:=w) a (al.map (bK .u8)) (λj v hj=>by
    rw[aS]at hj;cases i:al[j]? with
    |none=>rw[i]at hj;cases hj
    |some n=>
     rw[i]at hj;have hv:=(aJ hj).symm;let ⟨d,l⟩:=aq.1 i;have c:j<aa es:=by omega
     have m:size=1:=by rw[<-hlen j c,g2 j c d];rfl
     subst m;have h1:=himm j 0 c (by omega);have h2:=hrep j 0 c (by rw[hlen j c];omega);have B:es[j][0]'(by rw[hlen j c];omega)=.b4 (.int .u8 al[j]):=by have:=g2 j c d;simp only[this,List.getElem_cons_zero]
     rw[B]at h2;generalize z:val j 0=q at h1 h2;cases h2;have C:=h.cell h1;have f:=hsp (by omega);have:a.add j=⟨a.block,a.off+j*1+0,W⟩:=by let ⟨b,o,sp⟩:=a;cases f;simp[kr]
     rw[this,C,hv,l])
   simpa[g1]using this
 rw[key];exact o_.same (.b4 _) h;cases ha;cases ha;cases ha
def BO(x:bX)(i:Nat):dv bX :=
 match x with
 | .ed vs=>vs[i]?
 |_=>W
def bQ4{w:World}(h:Rel G σ w){id:Nat}(a:eR G x u)(ha:BO x i=Z v) :
  o_ G σ w σ id v ((lz u i).run P w):=by
 unfold BO at ha;split at ha;cases a with
 |ed cs vs h1 h2 =>let ⟨z,hz,b⟩:=hE.get (G:=G) ⟨h1,h2⟩ ha;simp only[lz,dY,hz];exact o_.same b h
 cases ha
def uL(place:Nat->dv (Nat×Nat))(cells:eX):cu (Nat×bX)->dv eX
 | []=>Z cells
 | (i,v)::rest=>
  match place i,v.cells with
  |some (off,size),Z vs=>ite (aa vs=size/\off+aa vs<=aa cells) (uL place (qz cells off vs) rest) <|none
  |_,_=>W
def ah0(off:Nat):∀(vs:cu Value) (j:Nat) (cs:Array Value),off+j+aa vs<=cs.size ->
  ((vs.zipIdx j).foldl (λcs (x:Value×Nat)=>cs.setIfInBounds (off+x.2) x.1) cs).toList=cs.toList.take (off+j)++vs++cs.toList.drop (off+j+aa vs)
 | [],j,cs,_=>by simp
 |v::vs,j,cs,h=>by
  simp only[aA]at h;rw[List.zipIdx_cons,iY,ah0 off vs (j+1) _ (by simp;omega)];have a:off+j<aa cs.toList:=by simp;omega
  simp only[Array.toList_setIfInBounds];rw[List.take_set,List.drop_set,cr (by omega)];have b:List.set (jN (off+(j+1)) cs.toList) (off+j) v=jN (off+j) cs.toList++[v]:=by
   have hm:min (off+j) (aa cs.toList)=off+j:=by omega
   rw[<-fK,List.take_succ_eq_append_getElem a,List.set_append];simp only[cQ,hm,Nat.lt_irrefl,lZ];rfl
  rw[b];simp;omega
def bL0{vs:eX}{ys:cu Value}(h:hE G cs us)(hv:hE G vs ys)(off:Nat):hE G (qz cs off vs) (us.take off++ys++us.drop (off+aa ys)):=by rw[hv.1];exact((h.take off).append hv).append (h.drop _)
def Js{place:Nat->dv (Nat×Nat)}:∀ {parts:cu (Nat×bX)} {a:cu (Nat×Value)} {cs out:eX} {us:Array Value},hE G cs us.toList ->
  (parts.map (·.1)=a.map (·.1))->hE G (parts.map (·.2)) (a.map (·.2))->uL place cs parts=Z out->∃ys:Array Value,l_ place us a=Z ys/\hE G out ys.toList
 | [],a,cs,out,us,h,he,d,ha=>by
  cases a with
  |nil=>simp[uL]at ha;subst ha;exact⟨us,rfl,h⟩
  |cons _ _=>simp at he
 | (i,v)::rest,a,cs,out,us,h,he,d,ha=>by
  cases a;simp at he;rename_i p f;let ⟨l,z⟩:=p;simp only[aD,cW]at he d;obtain⟨rfl,he⟩:=he;let ⟨m,k,e,h1,h2⟩:=d.cons_inv;obtain⟨rfl,rfl⟩:=e;unfold uL at ha;split at ha;rename_i off size vs hp hc;split at ha;have b:=h1.cells hc;have n:z.cells.size=aa vs:=by have:=b.1;simpa using this
  have o:us.size=aa cs:=by have:=h.1;simpa using this
  have c:((z.cells.zipIdx).foldl (λcs (x:Value×Nat)=>cs.setIfInBounds (off+x.2) x.1) us).toList=us.toList.take off++z.cells.toList++us.toList.drop (off+aa z.cells.toList):=by have:=ah0 off z.cells.toList 0 us (by simp;omega);simp only[eC]at this;rw[<-this,<-Array.foldl_toList];simp
  let ⟨ys,g,j⟩:=Js (us:=(z.cells.zipIdx).foldl (λcs (x:Value×Nat)=>cs.setIfInBounds (off+x.2) x.1) us) (by rw[c];exact bL0 h b off) he h2 ha;refine⟨ys,?_,j⟩;simp only[l_,hp];rw[cc (by simp;omega)];exact g;cases ha;cases ha
def u4:∀ {es:cu (cu α)},(∀c∈es,aa c=size)->aa es.flatten=aa es*size
 | [],_=>by simp
 |c::es,h=>by rw[dp,aL,u4 (λc hc=>h c (by simp[hc])),h c (by simp),aA,cG];omega
def Fm:∀ {es:cu (cu α)},(∀c∈es,aa c=size)->∀(i j:Nat) (c:cu α),es[i]?=Z c->j<size->es.flatten[i*size+j]?=c[j]?
 | [],_,i,j,c,h,_=>by simp at h
 |d::es,hl,0,j,c,h,hj=>by simp at h;subst h;rw[dp,ma,bj,dG,cr (by rw[hl d (by simp)];exact hj)]
 |d::es,hl,i+1,j,c,h,hj=>by have hd:=hl d (by simp);have a:=Fm (es:=es) (λc hc=>hl c (bC _ hc)) i j c (by simpa using h) hj;rw[dp,dG,cc (by rw[hd,cG];omega),<-a,hd,cG];congr 1;omega
def Wl{es:cu eX}{cells:Array Value}(hl:∀c∈es,aa c=size)(h:hE G es.flatten vs)(hv:∀(k:Nat) (v:Value),vs[k]?=Z v->cells[k]?=Z v) :
  ∀i (a7:i<aa es),es[i].length=size/\∀j (hj:j<es[i].length) (h':i*size+j<cells.size),eR G es[i][j] cells[i*size+j]:=by
 intro i a7;refine⟨hl _ (au a7),λj hj h'=>?_⟩;have a:j<size:=by grind
 have b:=Fm hl i j es[i] (af a7) a;rw[af hj]at b;let ⟨v,h1,h2⟩:=h.get b
 grind
def WG{es:cu eX}{cells:Array Value}(a:∀i (h:i<aa es),es[i].length=size/\∀j (hj:j<es[i].length) (h':i*size+j<cells.size),eR G es[i][j] cells[i*size+j])
  (g:aa es*size<=cells.size):hE G es.flatten (cells.toList.take (aa es*size)):=by
 have hl:∀c∈es,aa c=size:=λc hc=>by obtain⟨i,a7,rfl⟩:=bk hc;exact(a i a7).1
 refine⟨by rw[u4 hl];simp;omega,λk hk f=>?_⟩;rw[u4 hl]at hk;by_cases hs:size=0;subst hs;simp at hk;have a7:=(gS (by omega)).2 hk;have hj:k%size<size:=eZ _ (by omega);have b:k / size*size+k%size=k:=by rw[fY];exact jb k size
 have d:=Fm hl (k / size) (k%size) es[k / size] (af a7) hj;have hlen:=(a _ a7).1;rw[b,af (show k<aa es.flatten by rw[u4 hl];exact hk),af (show k%size<es[k / size].length by rw[hlen];exact hj)]at d;have e:=(a _ a7).2 (k%size) (by rw[hlen];exact hj) (by rw[b];omega);simp only[ah]at d;rw[d];simp only[b]at e;simpa using e
def VD:∀ {es:cu eX},(∀c∈es,aa c=size)->∀(i:Nat) (vs:eX),i<aa es->aa vs=size->qz es.flatten (i*size) vs=(es.set i vs).flatten
 | [],_,i,vs,h,_=>by simp at h
 |d::es,hl,0,vs,_,hv=>by have hd:=hl d (by simp);simp only[qz,dp,ma,List.take_zero,br,bj,List.set_cons_zero];rw[hv,<-hd,List.drop_left]
 |d::es,hl,i+1,vs,h,hv=>by
  have hd:=hl d (by simp);have b:=VD (es:=es) (λc hc=>hl c (bC _ hc)) i vs (by simpa using h) hv;simp only[List.set_cons_succ,dp,<-b,qz,hv];have a:(i+1)*size=aa d+i*size:=by rw[hd,cG];omega
  have e:(i+1)*size+size=aa d+(i*size+size):=by rw[hd,cG];omega
  rw[a,iZ,<-a,e,iK];simp
def vN(size:Nat)(es:cu eX):cu (Nat×bX)->dv (cu eX)
 | []=>Z es
 | (i,v)::rest=>match v.cells with
  |some vs=>ite (aa vs=size/\i<aa es) (vN size (es.set i vs) rest) <|none
  |none=>W
def VR:∀ {parts:cu (Nat×bX)} {es out:cu eX},(∀c∈es,aa c=size)->vN size es parts=Z out ->
  uL (λi=>Z (i*size,size)) es.flatten parts=Z out.flatten/\aa out=aa es/\∀c∈out,aa c=size
 | [],es,out,hl,h=>by simp[vN]at h;subst h;exact⟨rfl,rfl,hl⟩
 | (i,v)::rest,es,out,hl,h=>by
  unfold vN at h;split at h;rename_i vs hc;split at h;rename_i a;have b:∀c∈es.set i vs,aa c=size:=λc hc=>by
   rcases List.mem_or_eq_of_mem_set hc with h1|h1
   exact hl c h1;rw[h1];exact a.1
  let ⟨h1,h2,d⟩:=VR b h;refine⟨?_,by rw[h2];simp,d⟩;have hle:i*size+aa vs<=aa es.flatten:=by rw[u4 hl,a.1];have:(i+1)*size<=aa es*size:=b_ _ a.2;rw[cG]at this;omega
  simp only[uL,hc];rw[cr ⟨a.1,hle⟩,VD hl i vs a.2 a.1];exact h1;cases h;cases h
def cc9(zero:Array Value)(n:Nat)(hz:0<zero.size):(((bA (n*zero.size)).map (zero[·%zero.size]!)).toList).map bX.b4=(cC n (zero.toList.map bX.b4)).flatten:=by
 apply dU;intro k;have hl:∀c∈cC n (zero.toList.map bX.b4),aa c=zero.size:=λc hc=>by grind
 by_cases hk:k<n*zero.size;have a7:=(gS hz).2 hk;have hj:k%zero.size<zero.size:=eZ _ hz;have a:k / zero.size*zero.size+k%zero.size=k:=by grind[ jb]
 have:=Fm hl (k / zero.size) (k%zero.size) (zero.toList.map bX.b4) (by simp[a7]) hj
 grind
 rw[bB (by simp;omega),bB (by rw[u4 hl];simp;omega)]
def places(T:bY):cu Field->dv (cu (Nat×Nat))
 | []=>Z []
 |f::fs=>match T f.type,places T fs with
  |some a,Z l=>Z ((f.offset,a.size)::l)
  |_,_=>W
def run_places{T:bY}(cb:rk P T)(w:World):∀ {fs:cu Field} {l:cu (Nat×Nat)},places T fs=Z l ->
  (fs.mapM (λf:Field=>do pure (f.offset,<-sizeOf f.type)):Sem (cu (Nat×Nat))).run P w=.ok l w
 | [],l,h=>by simp[places]at h;subst h;simp
 |f::fs,l,h=>by unfold places at h;split at h;rename_i b c hf hl;cases h;have a:=run_places cb w hl;simp only[lB,ax,rj cb hf,ao,bd,a];cases h
def Aa(T:bY)(t:TypeId)(parts:cu (Nat×bX)):dv bX :=
 match T t with
 |some { j4:=.struct fields,zero:=z,.. }=>
  match places T fields.toList with
  |some l=>match uL (l[·]?) (z.cells.toList.map .b4) parts with
   |some cs=>Z (.agg cs)
   |none=>W
  |none=>W
 |some { j4:=.array _ elem,zero:=z,.. }=>
  match T elem with
  |some a=>match uL (λi=>Z (i*a.size,a.size)) (z.cells.toList.map .b4) parts with
   |some cs=>Z (.agg cs)
   |none=>W
  |none=>W
 |_=>W
def cc6{T:bY}(cb:rk P T){w:World}(h:Rel G σ w){id:Nat}{parts:cu (Nat×bX)}{a:cu (Nat×Value)}
  (he:parts.map (·.1)=a.map (·.1)) (g:hE G (parts.map (·.2)) (a.map (·.2))) (ha:Aa T t parts=Z v) :
  o_ G σ w σ id v ((jV t a.toArray).run P w):=by
 unfold Aa at ha;split at ha;rename_i fields _ z _ _ d;split at ha;rename_i l hl;split at ha;rename_i cs hf;cases ha;let ⟨ys,c,b⟩:=Js (us:=z.cells) (hE.b4 G _) he g hf;have hp:(fields.mapM (λf:Field=>do pure (f.offset,<-sizeOf f.type)):Sem (Array (Nat×Nat))).run P w=.ok l.toArray w:=by rw[jd];have:=run_places cb w hl;simp only[my,this,ao]
 simp only[jV,ax,BG cb d,oG cb d,ao,hp,dY,c];refine o_.same ?_ h;have:=eR.agg (G:=G) cs ys.toList b.1 b.2;simpa using this;cases ha;cases ha;rename_i n elem _ z _ _ d;split at ha;rename_i i e;split at ha;rename_i cs hf;cases ha;let ⟨ys,c,b⟩:=Js (us:=z.cells) (hE.b4 G _) he g hf;simp only[jV,ax,BG cb d,oG cb d,rj cb e,ao,c];refine o_.same ?_ h;have:=eR.agg (G:=G) cs ys.toList b.1 b.2;simpa using this;cases ha;cases ha;cases ha
theorem am5{P:Program}{G:ca}{σ:bg}{w:World}(h:Rel G σ w)(t:TypeId)(cells:Array Value)(es:cu eX)(size cap:Nat)(hl:∀c∈es,aa c=size){vs:cu Value}(d:hE G es.flatten vs)
  (hv:∀(k:Nat) (v:Value),vs[k]?=Z v->cells[k]?=Z v) (e:cells.size=cap*size) (a:aa es<=cap) (id:Nat) (hid:G.pl id=W) (b:id<σ.next) :
  ∃p:nt,p.block=w.heap.size/\p.size=size/\p.cap=cap/\p.mX=U/\Rel (G.place id p) (σ.set id (.row t size es)) { w with heap:=w.heap.push (.cells cells t) }:=by
 refine⟨{ block:=w.heap.size,size:=size,cap:=cap },rfl,rfl,rfl,rfl,?_⟩;exact h.push (.cells cells t) id hid b _ rfl rfl (.row t size es) ⟨cells,rfl,rfl,e,a,Wl hl (d.mono (ca.Cf hid)) hv⟩
def wz(T:bY)(σ:bg)(id:Nat)(t:TypeId)(len:Nat)(parts:cu (Nat×bX)):dv (bX×bg) :=
 match T t with
 |some { j4:=.slice elem,.. }=>
  match T elem with
  |some a=>ite (len*a.size<=2^24/\0<a.size) (match vN a.size (cC len a.zeroCells) parts with
    |some es=>Z (.ms id a.size 0 len,σ.set id (.row elem a.size es))
    |none=>W) <|none
  |none=>W
 |_=>W
theorem bp5{P:Program}{T:bY}(cb:rk P T){G:ca}{σ σ':bg}{w:World}(h:Rel G σ w){t:TypeId}{id len:Nat}{parts:cu (Nat×bX)}{a:cu (Nat×Value)}{v:bX}
  (he:parts.map (·.1)=a.map (·.1)) (D:hE G (parts.map (·.2)) (a.map (·.2))) (hid:G.pl id=W) (r:id<σ.next) (ha:wz T σ id t len parts=Z (v,σ')) :
  o_ G σ w σ' id v ((kL t len a.toArray).run P w):=by
 unfold wz at ha;split at ha;rename_i elem _ _ _ _ E;split at ha;rename_i b g;split at ha;split at ha;rename_i es hes;cases ha;have i:=cb.Lf elem b g;have s:∀c∈cC len b.zeroCells,aa c=b.size:=λc hc=>by rw[List.eq_of_mem_replicate hc];simp[nk.zeroCells,i]
 let ⟨j,hlen,hl⟩:=VR s hes;have u:=cc9 b.zero.cells len (by omega);have l:aa es=len:=by rw[hlen];simp
 let ⟨ys,m,n⟩:=Js (us:=(bA (len*b.zero.cells.size)).map (b.zero.cells[·%b.zero.cells.size]!)) (by
  have:=hE.b4 G ((bA (len*b.zero.cells.size)).map (b.zero.cells[·%b.zero.cells.size]!)).toList;rw[u]at this;exact this) he D j
 have x:ys.size=len*b.size:=by have:=n.1;rw[u4 hl,l]at this;simpa using this
 let ⟨p,o,z,B,C,q⟩:=am5 (P:=P) h elem ys es b.size len hl n (λk v hv=>by simpa using hv) x (by omega) id hid r;have f:o_ G σ w (σ.set id (.row elem b.size es)) id (.ms id b.size 0 len) (.ok (.slice (Z ⟨w.heap.size,0,W⟩) len len) { w with heap:=w.heap.push (.cells ys elem) }):=by refine o_.place (p:=p) hid ?_ q (Fr.push _ id hid p (λ_=>o) _ w.drawn);exact .ms id _ 0 len p (ca.sc _ _ _) C z _ len (λ_=>by rw[o];simp) (by rw[B];simp) (ay _) rfl
 simp only[kL,ax,oG cb E,rj cb g,ao];rw[cc (by omega)];rw[i]at m;by_cases e:len*b.size=0;simp only[e,vE,ax,bd,ao];have d:(bA 0).map ((#[]:Array Value)[·%(#[]:Array Value).size]!)=(bA (len*b.size)).map (b.zero.cells[·%b.size]!):=by simp[e]
 rw[d,m];simpa[newRow]using f;simp only[e,l4,ax,bd,ao,BG cb g,i,m];exact f;cases ha;cases ha;cases ha;cases ha
def oS(σ:bg):bX->dv (cu eX)
 | .ms id _ off len=>match σ.bF id with
  |some (.row _ _ es)=>ite (off+len<=aa es) (Z ((es.drop off).take len)) <|none
  |_=>W
 | .rs es=>Z es
 | .b4 (.slice W 0 0)=>Z []
 |_=>W
def V':∀ {es:cu (cu α)},(∀c∈es,aa c=size)->∀n,es.flatten.take (n*size)=(es.take n).flatten
 | [],_,n=>by simp
 |d::es,hl,0=>by simp
 |d::es,hl,n+1=>by
  have hd:=hl d (by simp);have a:(n+1)*size=aa d+n*size:=by rw[hd,cG];omega
  rw[dp,a,iZ,V' (λc hc=>hl c (bC _ hc)) n];simp
def V6:∀ {es:cu (cu α)},(∀c∈es,aa c=size)->∀n,es.flatten.drop (n*size)=(es.drop n).flatten
 | [],_,n=>by simp
 |d::es,hl,0=>by simp
 |d::es,hl,n+1=>by
  have hd:=hl d (by simp);have a:(n+1)*size=aa d+n*size:=by rw[hd,cG];omega
  rw[dp,a,iK,Nat.add_sub_cancel_left,V6 (λc hc=>hl c (bC _ hc)) n];simp
def QO{w:World}(h:Rel G σ w)(D:eR G x u){es:cu eX}(hs:oS σ x=Z es)(size:Nat)(hl:∀c∈es,aa c=size) :
  (∃a c,u=.slice a (aa es) c)/\∃vs:cu Value,(bp size (aa es) u).run P w=.ok vs.toArray w/\hE G es.flatten vs:=by
 unfold oS at hs;split at hs;rename_i id _ off len;split at hs;rename_i elem d all ho;split at hs;rename_i hle;cases hs;have hlen:aa ((all.drop off).take len)=len:=by simp;omega
 rw[hlen];cases D with
 |oh _ _ p hp hv =>refine⟨⟨_,_,rfl⟩,[],by simp[bp],?_⟩;exact .nil _
 |ms _ _ _ _ p hp hv hz a c J hoff K hsp=>
  refine⟨⟨_,_,rfl⟩,?_⟩;let ⟨_,_,cells,M,E,N,t,m⟩:=h.real ho hp hv;have f:∀c∈all,aa c=d:=λc hc=>by obtain⟨i,a7,rfl⟩:=bk hc;exact(m i a7).1
  by_cases z:len=0;subst z;refine⟨[],by simp[bp,loadCells,loadCellsFrom],?_⟩;exact .nil _;have r:d=size:=by
   have hm:all[off]'(by omega)∈(all.drop off).take len:=by have:=au (l:=(all.drop off).take len) (n:=0) (by rw[hlen];omega);simpa using this
   rw[<-hl _ hm];exact(f _ (au _)).symm
  subst r;have B:aa all*d<=cells.size:=by rw[N];exact b_ _ t
  have s:=WG m B;have q:=(s.drop (off*d)).take (len*d);rw[V6 f,V' (λc hc=>f c (List.mem_of_mem_drop hc))]at q;have hmul:off*d+len*d<=aa all*d:=by rw[<-cG];exact b_ _ hle
  refine⟨_,?_,q⟩;have O:aa (jN (len*d) (List.drop (off*d) (jN (aa all*d) cells.toList)))=len*d:=by simp;omega
  simp only[bp];rw[J (by omega),E]
  conv=>lhs;rw[<-O]
  refine run_loadCells_list (P:=P) w _ _ (λj v hv=>?_);rw[tL,cell_of_row w _ _ cells elem _ M];simp only[ku,iT]at hv;split at hv;split at hv;simpa using hv;cases hv;cases hv
 cases hs;cases hs;cases hs;cases D with
 |q9=>exact⟨⟨_,_,rfl⟩,[],by simp[bp],.nil _⟩
 |rs es a cap d val hsp hc hlen himm hrep=>
  refine⟨⟨_,_,rfl⟩,?_⟩;let ⟨b,o,sp⟩:=a;by_cases z:es=[];subst z;exact⟨[],by simp[bp,loadCells,loadCellsFrom],.nil _⟩;have hsp:=hsp (by have h1:=dB.2 z;omega);subst hsp;have r:d=size:=by have h1:=dB.2 z;rw[<-hlen 0 h1];exact hl _ (au _)
  subst r;have g:∀k,k<aa es*d->k / d<aa es/\k%d<d/\k / d*d+k%d=k:=λk hk=>by
   have hp:0<d:=by
    rcases Nat.eq_zero_or_pos d with e|e
    subst e;simp at hk;exact e
   exact⟨(gS hp).2 hk,eZ _ hp,by rw[fY];exact jb k d⟩
  refine⟨(aT (aa es*d)).map (λk=>val (k / d) (k%d)),?_,?_⟩;refine run_loadCells (P:=P) w _ _ _ (λk hk=>?_);let ⟨h1,h2,H⟩:=g k hk;rw[tL];have:=h.cell (himm (k / d) (k%d) h1 h2);rwa [fK,H]at this;refine⟨by rw[u4 hl];simp,λk hk Q=>?_⟩;rw[u4 hl]at hk;let ⟨h1,h2,H⟩:=g k hk;have I:=Fm hl (k / d) (k%d) es[k / d] (af h1) h2;have C:=hlen _ h1;rw[H,af (show k<aa es.flatten by rw[u4 hl];exact hk),af (show k%d<es[k / d].length by rw[C];exact h2)]at I;simp only[ah]at I;rw[I];have:=hrep (k / d) (k%d) h1 (by rw[C];exact h2);simpa using this
 cases hs;cases D;exact⟨⟨_,_,rfl⟩,[],by simp[bp],.nil _⟩;cases hs
def nk.isInt(ti:nk):Bool:=match ti.j4 with| .int _=>Y|_=>U
def ry(σ:bg)(elem:TypeId)(size:Nat):bX->dv (dv Nat×cu eX)
 | .ms id _ 0 len=>match σ.bF id with
  |some (.row e a es)=>ite (len=aa es/\a=size/\e=elem) (Z (Z id,es)) <|none
  |_=>W
 | .b4 (.slice W 0 0)=>Z (W,[])
 |_=>W
def sM(T:bY)(σ:bg)(id:Nat)(sT xT:TypeId)(s x:bX):dv (bX×bg) :=
 match T sT,T xT with
 |some { j4:=.slice elem,.. },Z d=>
  match T elem with
  |some a=>
   match ry σ elem a.size s,oS σ x with
   |some (b,es),Z xs=>ite (d.isInt=U/\(xs.all λc=>aa c==a.size&&c.all bX.one)=Y/\(2*(aa es+aa xs)+1000)*a.bytes<=2^48/\aa es+aa xs<=2^62/\0<a.size) (Z (.ms id a.size 0 (aa es+aa xs),(match b with|some i=>σ.del i|none=>σ).set id (.row elem a.size (es++xs)))) <|none
   |_,_=>W
  |none=>W
 |_,_=>W
theorem ao6(n:Nat):∀(r c:Nat),c<=2*n+192->iU n r c<=2*n+192
 | 0,c,h=>by simpa[iU]using h
 |r+1,c,h=>by unfold iU;split;exact h;exact ao6 n r _ (by omega)
def bU6{c:Nat}(h:c<n):dE n c<=2*n+192:=by
 unfold dE
 grind[ao6]
def run_append_room{T:bY}(cb:rk P T){w:World}{g h:nk}(hs:T sT=Z st)(hu:st.j4=.slice elem)(l:T xT=Z g)(a7:g.isInt=U)(he:T elem=Z h)
  (base:dv Addr) (b c n:Nat) (j:dv Addr) (k:Nat) (vs:Array Value) (d:(bp h.size n (.slice j n k)).run P w=.ok vs w) (e:b+n<=c) (ty:TypeId) :
  (dj #[sT,xT] ty #[.slice base b c,.slice j n k]).run P w =
   (((match base with|some a=>storeCells (a.add (b*h.size)) vs.toList|none=>pure ()):Sem Unit).run P w).andThen (λ_ w'=>.ok (.slice base (b+n) c) w'):=by
 have f:(underlying sT).run P w=.ok (.slice elem) w:=by rw[oG cb hs,hu]
 unfold dj;simp[ f,rj cb he,oG cb l];cases i:g.j4<;>simp[nk.isInt,i]at a7<;>first
  | (cases a7;done)
  | (simp[kT,e,d];cases base<;>simp)
def run_append_grow{T:bY}(cb:rk P T){w:World}{o e:nk}(hs:T sT=Z st)(hu:st.j4=.slice elem)(x:T xT=Z o)(a7:o.isInt=U)(he:T elem=Z e)
  (base:dv Addr) (a b n:Nat) (t:dv Addr) (u:Nat) (us vs:Array Value)
  (hold:∀k,(bp e.size a (.slice base a b)).run P { w with drawn:=k }=.ok us { w with drawn:=k })
  (f:∀k,(bp e.size n (.slice t n u)).run P { w with drawn:=k }=.ok vs { w with drawn:=k })
  (c:b<a+n) (B:(2*(a+n)+1000)*e.bytes<=2^48) (C:a+n<=2^62) (ty:TypeId) :
  ∃newCap,a+n<=newCap/\(dj #[sT,xT] ty #[.slice base a b,.slice t n u]).run P w =
   .ok (.slice (Z ⟨w.heap.size,0,W⟩) (a+n) newCap) { w with drawn:=w.drawn+1,heap:=w.heap.push (.cells (us++vs++cI e.zero.cells (newCap-(a+n))) elem) }:=by
 have g:∀k,(underlying sT).run P { w with drawn:=k }=.ok (.slice elem) { w with drawn:=k }:=λk=>by rw[oG cb hs,hu]
 let ⟨i,h,p⟩:=ah2 cb he w;have l:∀w',(typeInfo elem).run P w'=.ok i w':=λw'=>by
  let ⟨j,hj,_⟩:=cb.info elem e he;have:(typeInfo elem).run P w=.ok j w:=by simp[typeInfo,hj]
  rw[this]at h;cases h;simp[typeInfo,hj]
 have v:=bU6 c;have d:¬(dE (a+n) b*i.bytes > 2^48):=by rw[p];have:dE (a+n) b*e.bytes<=(2*(a+n)+1000)*e.bytes:=b_ _ (by omega);omega
 refine⟨(fS (a+n) b elem).cut (w.tape w.drawn (.appendCap (a+n) b elem)),by simp only[kU];omega,?_⟩;have z:=g w.drawn;have q:=hold (w.drawn+1);have r:=f (w.drawn+1);have m:¬(((a+n:Nat):Int) > du.max/\(False\/i.bytes=0)):=by
  have:du.max=9223372036854775807:=by decide
  rw[this];omega
 unfold dj;simp only[dY,ch,aK,ax,z,ao,rj cb he,oG cb x];cases s:o.j4<;>simp[nk.isInt,s]at a7<;>first
  | (cases a7;done)
  | (simp only[aF,l4,kT,ax,bd,ao,cc (Nat.not_le.2 c),aQ,vE,l,cc m,cc d,run_choose,kf,run_askRoom,q,r,BG cb he,newRow,run_newObj])
def Mt(w:World)(k:Nat)(a:Addr):∀(n i:Nat) (acc vs:Array Value),(loadCellsFrom a i n acc).run P w=.ok vs w->(loadCellsFrom a i n acc).run P { w with drawn:=k }=.ok vs { w with drawn:=k }
 | 0,i,acc,vs,h=>by simp[loadCellsFrom]at h⊢;exact h
 |n+1,i,acc,vs,h=>by
  simp[loadCellsFrom]at h⊢;have hc:({ w with drawn:=k }:World).cell? (a.add i)=w.cell? (a.add i):=rfl;rw[hc];cases hw:w.cell? (a.add i)with
  |some v =>simp[hw]at h⊢;exact Mt w k a n (i+1) _ vs h
  |none=>
   simp[hw]at h⊢;have hf:({ w with drawn:=k }:World).farLoad P (a.add i) (kM==.atomic)=w.farLoad P (a.add i) (kM==.atomic):=rfl;rw[hf];cases b:w.farLoad P (a.add i) (kM==.atomic)with
   |ok r =>simp[b]at h⊢;exact Mt w k a n (i+1) _ vs h
   |error e=>simp[b]at h
theorem VA(w:World)(k:Nat)(a:Addr)(n:Nat)(vs:Array Value)(h:(loadCells a n).run P w=.ok vs w):(loadCells a n).run P { w with drawn:=k }=.ok vs { w with drawn:=k } :=Mt w k a n 0 #[] vs h
theorem FZ{k:Nat}{o:c7}(h:(σ.del i).bF k=Z o):σ.bF k=Z o:=by grind[bg.rK]
def bp4(zero:Array Value)(n:Nat):(cI zero n).size=n*zero.size:=by simp[cI]
theorem Iq{P:Program}{T:bY}(cb:rk P T){G:ca}{σ:bg}{w:World}(h:Rel G σ w){elem:TypeId}{a:nk}(he:T elem=Z a){id:Nat}(hid:G.pl id=W)(f:id<σ.next)
  {es xs:cu eX} (hes:∀c∈es,aa c=a.size) (g:∀c∈xs,aa c=a.size) {us vs:cu Value} (hu:hE G es.flatten us) (hv:hE G xs.flatten vs) {newCap:Nat} (hc:aa es+aa xs<=newCap) :
  o_ G σ w (σ.set id (.row elem a.size (es++xs))) id (.ms id a.size 0 (aa es+aa xs)) (.ok (.slice (Z ⟨w.heap.size,0,W⟩) (aa es+aa xs) newCap)
   { w with drawn:=w.drawn+1,heap:=w.heap.push (.cells (us.toArray++vs.toArray++cI a.zero.cells (newCap-(aa es+aa xs))) elem) }):=by
 have b:∀c∈es++xs,aa c=a.size:=λc hc=>by grind
 have i:aa us=aa es*a.size:=by rw[hu.1,u4 hes]
 have j:aa vs=aa xs*a.size:=by rw[hv.1,u4 g]
 have hz:=cb.Lf elem a he;let ⟨p,d,l,m,n,e⟩:=am5 (P:=P) (h.drawn (w.drawn+1)) elem (us.toArray++vs.toArray++cI a.zero.cells (newCap-(aa es+aa xs))) (es++xs) a.size newCap b
  (vs:=us++vs) (by rw[kg];exact hu.append hv) (λk v hk=>by grind) (by
   simp[bp4,hz,i,j];rw[<-cG,<-cG];congr 1;omega) (by simp;omega) id hid f
 refine o_.place (p:=p) hid ?_ e (Fr.push (w:=w) _ id hid p (λ_=>d) _ (w.drawn+1));exact .ms id _ 0 _ p (ca.sc _ _ _) n l _ newCap (λ_=>by rw[d];simp) (by rw[m];simp) hc rfl
def bV8{T:bY}(cb:rk P T){w:World}(h:Rel G σ w){id:Nat}{s:bX}{y:Value}(hs:eR G s u)(hx:eR G x y)
  (hid:G.pl id=W) (B:id<σ.next) (ha:sM T σ id sT xT s x=Z (v,σ')):o_ G σ w σ' id v ((dj #[sT,xT] ty #[u,y]).run P w):=by
 unfold sM at ha;split at ha
 next elem nq z2 z3 z4 xi E H=>
  split at ha
  next d l=>
   split at ha
   next old es xs b N=>
    split at ha
    next R=>
     let ⟨hint,hallB,m,hN,hpos⟩:=R
     have hxs:∀c∈xs,aa c=d.size/\c.all bX.one=Y:=λc hc=>by grind
     have I:=λc hc=>(hxs c hc).1;obtain⟨⟨O,S,rfl⟩,vs,f,r⟩:=QO (P:=P) h hx N d.size I;have n:∀k,(bp d.size (aa xs) (.slice O (aa xs) S)).run P { w with drawn:=k }=.ok vs.toArray { w with drawn:=k }:=λk=>by
      let ⟨_,vs',hl',hv'⟩:=QO (P:=P) (h.drawn k) hx N d.size I
      rw[hl'];have e:vs'=vs:=by
       cases O with
       |none=>
        simp[bp]at hl' f
        grind
       |some a=>
        simp[bp]at hl' f;have key:=VA (P:=P) w k a (aa xs*d.size) vs.toArray f
        grind
      rw[e]
     obtain⟨rfl,rfl⟩:=ha;unfold ry at b;split at b
     next i _ len=>
      split at b
      next q sz es1 ho=>
       split at b
       next hc=>
        obtain⟨hlen,rfl,hel⟩:=hc;subst hel;cases b;cases hs with
        |oh _ _ p hp hv=>
         have hes0:es=[]:=by grind
         subst hes0;by_cases t:xs=[]
         .subst t
          have g:=run_append_room cb (w:=w) E rfl H hint l W 0 0 0 O S vs.toArray (by simpa using f) (by omega) ty;simp;rw[g];exact o_.place (p:=p) hid (.oh id _ p (ca.sc _ _ _) hv) (h.move ho hp hid B) (Fr.move ho hp)
         have J:=dB.2 t;let ⟨newCap,D,j⟩:=run_append_grow cb (w:=w) E rfl H hint l W 0 0 (aa xs) O S #[] vs.toArray (λk=>by simp[bp]) n (by omega) (by simpa using m) (by simpa using hN) ty;have hr2:Rel G (σ.del i) w:=h.less rfl (λk o hk=>FZ hk);have:=Iq cb hr2 l hid B (es:=[]) (by simp) I (.nil G) r (newCap:=newCap) (by simpa using D)
         grind[o_.less,FZ]
        |ms _ _ _ _ p hp hv hz a c hA hoff hlc hsp=>
         subst hlen;let ⟨him,hw0,cells,hb,K,hn,D,Q⟩:=h.real ho hp hv;have hes:∀c∈es,aa c=d.size:=λc hc=>by obtain⟨k,hk,rfl⟩:=bk hc;exact(Q k hk).1
         by_cases g:aa es+aa xs<=c
         .rw[run_append_room cb (w:=w) E rfl H hint l (Z a) (aa es) c (aa xs) O S vs.toArray f g ty]
          by_cases t:xs=[]
          .subst t
           have hv0:vs=[]:=by have:=r.1;simpa using this
           subst hv0;simp;exact o_.place (p:=p) hid (.ms id _ 0 _ p (ca.sc _ _ _) hv K a c hA hoff hlc hsp) (h.move ho hp hid B) (Fr.move ho hp)
          have J:=dB.2 t;have hvl:aa vs=aa xs*d.size:=by rw[r.1,u4 I]
          rw[hA (by omega),K];have hbig:aa es*d.size+aa xs*d.size<=cells.size:=by rw[hn,<-cG];exact b_ _ (by omega)
          let ⟨C,j,hsz,k5⟩:=Ms (P:=P) p.block (aa es*d.size) q vs 0 cells w hb (by rw[hvl];omega) (λz hz=>by
           obtain⟨k,hk,rfl⟩:=bk hz;have hk':k<aa xs.flatten:=by rw[<-r.1];exact hk
           refine(r.2 k hk' hk).one ?_
           grind)
          simp[ tL,j];have hall:∀c∈es++xs,aa c=d.size:=λc hc=>by grind
          have hflat:=WG Q (by omega);have hreps:hE G (es++xs).flatten (cells.toList.take (aa es*d.size)++vs):=by rw[kg];exact hflat.append r
          have hw':=h.write (o':=.row q d.size (es++xs)) ho hp hv (.cells C q (0,0)) (oR w p.block (.cells C q (0,0))) rfl rfl rfl (zG _ _ _) (λk hk=>zz _ _ _ _ hk)
           (Fs _ _ _ _ hb) ⟨C,rfl,K,by rw[hsz,hn],by simp;omega,Wl hall hreps (λk z hk=>by grind)⟩
          have hm:=hw'.move (id:=i) (id':=id) (o:=.row q d.size (es++xs)) (p:=p) (by simp[bg.x9]) hp hid B;have M:∀k o,((σ.del i).set id (.row q d.size (es++xs))).bF k=Z o->(((σ.set i (.row q d.size (es++xs))).del i).set id (.row q d.size (es++xs))).bF k=Z o:=(λk o hk=>by grind[bg.x9,bg.rK]);have hm2:Rel (G.place id p) ((σ.del i).set id (.row q d.size (es++xs))) (oR w p.block (.cells C q (0,0))):=hm.less rfl M;have hfw:Fr G σ w G (σ.set i (.row q d.size (es++xs))) (oR w p.block (.cells C q (0,0))):=Fr.write ho hp hv _ (zG _ _ _) (λk hk=>zz _ _ _ _ hk);have hfm:Fr G (σ.set i (.row q d.size (es++xs))) (oR w p.block (.cells C q (0,0))) (G.place id p) (((σ.set i (.row q d.size (es++xs))).del i).set id (.row q d.size (es++xs))) (oR w p.block (.cells C q (0,0))):=Fr.move (id:=i) (o:=.row q d.size (es++xs)) (by simp[bg.x9]) hp;exact o_.place (p:=p) hid (.ms id _ 0 _ p (ca.sc _ _ _) hv K _ c (λ_=>by simp) (by omega) g rfl) hm2 (hfw.trans (hfm.trans (Fr.less M)))
         have hnr:c<aa es+aa xs:=by omega
         have hsrc2:oS σ (.ms i d.size 0 (aa es))=Z es:=by simp[oS,ho]
         have hrs:eR G (.ms i d.size 0 (aa es)) (.slice (Z a) (aa es) c):=.ms _ _ _ _ p hp hv K a c hA hoff hlc hsp;let ⟨_,us,hold,hus⟩:=QO (P:=P) h hrs hsrc2 d.size hes;have hold':∀k,(bp d.size (aa es) (.slice (Z a) (aa es) c)).run P { w with drawn:=k }=.ok us.toArray { w with drawn:=k }:=λk=>by
          simp[bp]at hold⊢
          grind[VA]
         let ⟨newCap,hcap2,j⟩:=run_append_grow cb (w:=w) E rfl H hint l (Z a) (aa es) c (aa xs) O S us.toArray vs.toArray hold' n hnr m hN ty
         rw[j];have hr2:Rel G (σ.del i) w:=h.less rfl (λk o hk=>FZ hk);exact o_.less (σ1:=σ.del i) (λk o hk=>FZ hk) (Iq cb hr2 l hid B hes I hus r hcap2)
       cases b
      cases b
     .cases b
      cases hs;by_cases t:xs=[]
      .subst t
       have g:=run_append_room cb (w:=w) E rfl H hint l W 0 0 0 O S vs.toArray (by simpa using f) (by omega) ty;simp;rw[g];exact o_.place (p:={ block:=0,size:=0,cap:=0,mX:=Y }) hid (.oh id _ _ (ca.sc _ _ _) rfl) (h.mX id hid B _ rfl elem d.size) (Fr.mX id _ rfl _)
      have J:=dB.2 t;let ⟨newCap,D,j⟩:=run_append_grow cb (w:=w) E rfl H hint l W 0 0 (aa xs) O S #[] vs.toArray (λk=>by simp[bp]) n (by omega) (by simpa using m) (by simpa using hN) ty;rw[j];have:=Iq cb h l hid B (es:=[]) (by simp) I (.nil G) r (newCap:=newCap) (by simpa using D);simpa using this
     cases b
    cases ha
   cases ha
  cases ha
 cases ha
def oF(σ:bg):bX->bg
 | .ms id _ 0 len=>match σ.bF id with
  |some (.row e a es)=>ite (len<aa es) (σ.set id (.row e a (es.take len))) <|σ
  |_=>σ
 |_=>σ
def Rel.ar3{w:World}(h:Rel G σ w){id:Nat}{a:Nat}{es:cu eX}(ho:σ.bF id=Z (.row e a es))(n:Nat)(d:n<aa es) :
  Rel G (σ.set id (.row e a (es.take n))) w/\Fr G σ w G (σ.set id (.row e a (es.take n))) w:=by
 let ⟨p,hp,hl⟩:=h.bF id _ ho;have hv:p.mX=U:=by
  rcases hl with⟨_,g,s2,h2⟩|⟨h2,_⟩
  cases h2;simp at d;exact h2
 let ⟨_,_,cells,f,hs,b,hle,c⟩:=h.real ho hp hv;refine⟨h.write ho hp hv (.cells cells e (0,0)) w rfl rfl rfl rfl (λ_ _=>rfl) f ⟨cells,rfl,hs,b,by simp;omega,λi a7=>?_⟩,Fr.write ho hp hv w rfl (λ_ _=>rfl)⟩
 grind
def bI4{w:World}(h:Rel G σ w)(s:bX):Rel G (oF σ s) w/\Fr G σ w G (oF σ s) w/\(oF σ s).next=σ.next:=by unfold oF;split;split;rename_i ho;split;rename_i hl;exact⟨(h.ar3 ho _ hl).1,(h.ar3 ho _ hl).2,rfl⟩;exact⟨h,.refl _ _ _,rfl⟩;exact⟨h,.refl _ _ _,rfl⟩;exact⟨h,.refl _ _ _,rfl⟩
def xK(T:bY)(σ:bg)(id:Nat)(elem:TypeId)(s x:bX):dv (bX×bg) :=
 match s,x,T elem with
 | .b4 (.slice W 0 0),.b4 (.int _ n),Z a=>ite (an du n=n/\0<n/\(2*n.toNat+1000)*a.bytes<=2^48/\n.toNat<=2^62/\0<a.size) (Z (.ms id a.size 0 n.toNat,σ.set id (.row elem a.size (cC n.toNat a.zeroCells)))) <|none
 |_,_,_=>W
def bp9(zero:Array Value)(n:Nat):(cI zero n).toList=(cC n zero.toList).flatten:=by
 have a:(aT zero.size).map (zero[·%zero.size]!)=zero.toList:=by
  apply List.ext_getElem;simp
  grind[Nat.mod_eq_of_lt]
 have key:∀n,(aT (n*zero.size)).map (zero[·%zero.size]!)=(cC n zero.toList).flatten:=by
  intro n
  induction n with
  |zero=>simp
  |succ n b =>rw[Nat.succ_mul,jD,List.range_add,List.map_append,a,kh,dp,<-b,de];congr 1;simp
 grind[cI,Array.toList_map]
def hE.aD5(a:cu Value):∀n,hE G (cC n (a.map bX.b4)).flatten (cC n a).flatten
 | 0=>.nil G
 |n+1=>by simp only[kh];refine hE.append ⟨by simp,λi h1 h2=>?_⟩ (hE.aD5 a n);simp only[cK];exact .b4 _
theorem aJ4{T:bY}(cb:rk P T){w:World}(h:Rel G σ w){J:nk}(z:T sT=Z st)(hu:st.j4=.slice elem)(B:T xT=Z J)(C:J.j4=.int k){id:Nat}{s:bX}{y:Value}(hs:eR G s u)(M:eR G x y)
  (hid:G.pl id=W) (D:id<σ.next) (ha:xK T σ id elem s x=Z (v,σ')):o_ G σ w σ' id v ((dj #[sT,xT] ty #[u,y]).run P w):=by
 unfold xK at ha;split at ha;rename_i O n b a;split at ha;rename_i hc;let ⟨h1,h2,Q,h4,R⟩:=hc;cases hs;cases M;obtain⟨N,rfl⟩:∃N:Nat,n=N:=⟨n.toNat,by omega⟩;let ⟨i,p,E⟩:=ah2 cb a w;have g:∀w',(typeInfo elem).run P w'=.ok i w':=λw'=>by
  let ⟨j,hj,_⟩:=cb.info elem b a;have:(typeInfo elem).run P w=.ok j w:=by simp[typeInfo,hj]
  rw[this]at p;cases p;simp[typeInfo,hj]
 have S:0<N:=by omega
 have hmul:∀m,m<=2*N+1000->m*i.bytes<=2^48:=λm hm=>by rw[E];exact bD (b_ _ hm) Q
 have f:¬(dE N 0*i.bytes > 2^48):=by grind[dE]
 have d:¬((N:Int)*(i.bytes:Int) > 2^48):=by grind
 have q:¬((N:Int)<0):=by omega
 have r:¬(((N:Nat):Int) > du.max/\(True\/i.bytes=0)):=by
  have:du.max=9223372036854775807:=by decide
  rw[this];omega
 have H:¬(N*b.size=0):=by have:=Nat.mul_pos S R;omega
 have hz:=cb.Lf elem b a;have K:(dj #[sT,xT] ty #[.slice W 0 0,.int O N]).run P w =
   .ok (.slice (Z ⟨w.heap.size,0,W⟩) N ((fS N 0 elem).cut (w.tape w.drawn (.appendCap N 0 elem)))) { w with drawn:=w.drawn+1,heap:=w.heap.push (.cells (#[]++cI b.zero.cells N++cI b.zero.cells ((fS N 0 elem).cut (w.tape w.drawn (.appendCap N 0 elem))-N)) elem) }:=by
  have t:(underlying sT).run P w=.ok (.slice elem) w:=by rw[oG cb z,hu]
  have l:(underlying xT).run P w=.ok (.int k) w:=by rw[oG cb B,C]
  have o:¬(0+N<=0):=by omega
  unfold dj;simp only[dY,ch,aK,ax,t,l,ao,rj cb a,bd,vE,asInt,asIntOf,h1,cc q,g,cc d,Int.toNat_natCast,cc o];simp only[bj,cc r,cc f,run_choose,kf,ao,run_askRoom,bp,bd,ar,aF,l4,cc H,ax,BG cb a,newRow,run_newObj,g]
 have I:∀c∈cC N b.zeroCells,aa c=b.size:=λc hc=>by grind[nk.zeroCells]
 have:=Iq cb h a hid D (es:=[]) (xs:=cC N b.zeroCells) (us:=[]) (vs:=(cC N b.zero.cells.toList).flatten) (by simp) I (.nil G) (hE.aD5 _ N) (newCap:=(fS N 0 elem).cut (w.tape w.drawn (.appendCap N 0 elem))) (by simp only[kU];simp);have e:(cC N b.zero.cells.toList).flatten.toArray=cI b.zero.cells N:=by apply dZ;rw[bp9]
 grind
 cases ha;cases ha
def qS(T:bY)(σ:bg)(id:Nat)(sT xT:TypeId)(s x:bX):dv (bX×bg) :=
 match T sT,T xT with
 |some { j4:=.slice elem,.. },Z { j4:=.int _,.. }=>xK T σ id elem s x
 |_,_=>sM T (oF σ s) id sT xT s x
def bP0{T:bY}(cb:rk P T){w:World}(h:Rel G σ w){id:Nat}{s:bX}{y:Value}(hs:eR G s u)(b:eR G x y)
  (hid:G.pl id=W) (a:id<σ.next) (ha:qS T σ id sT xT s x=Z (v,σ')):o_ G σ w σ' id v ((dj #[sT,xT] ty #[u,y]).run P w):=by
 unfold qS at ha;split at ha
 grind[aJ4]
 let ⟨h1,h2,c⟩:=bI4 h s;let ⟨G',d,w',e,a2,a3,a4,a5,f⟩:=bV8 (P:=P) cb h1 (ty:=ty) hs b hid (by rw[c];exact a) ha;exact⟨G',d,w',e,a2,a3,a4,a5,h2.trans f⟩
def A7(T:bY)(t:TypeId)(x:bX):dv bX :=
 match T t,x with
 |some { j4:=.slice _,.. },.b4 (.slice W 0 0)=>Z (.b4 (goInt 0))
 |_,_=>W
def ba1{T:bY}(cb:rk P T){w:World}(h:Rel G σ w){id:Nat}(b:eR G x u)(ha:A7 T t x=Z v) :
  o_ G σ w σ id v ((lh #[t] ty #[u]).run P w):=by
 unfold A7 at ha;split at ha;rename_i c;cases ha;cases b;have a:=oG cb c w;simp only[lh,dY,ch,ax,a];exact o_.same (.b4 _) h;cases ha
def bX.V3{b:Bool}(h:x.key=Z (b,l))(a:eR G x u):u=ob b l:=by
 unfold bX.key at h;split at h;cases h;cases a;rfl;split at h;rename_i cs c hl;cases h;cases a with
 |agg _ vs h1 h2=>rw[bX.I8 hl ⟨h1,h2⟩];simp[ob]
 cases h;cases h
def tl(agg:Bool)(l a:eD):Bool:=ite agg (l==a) <|l.headD 0==a.headD 0
def nX(agg:Bool)(l:eD):cu (eD×bX×Nat)->Nat->dv (Nat×bX)
 | [],_=>W
 |e::es,i=>ite (tl agg l e.1) (Z (i,e.2.1)) <|nX agg l es (i+1)
def tS(T:bY)(a:TypeId)(b:Bool)(l:eD)(es:cu (eD×bX×Nat)):Bool :=
 match T a with
 |some ti=>ite b (ti.flat==Z (aa l)&&es.all (·.1.length==aa l)) <| (match ti.j4 with| .int _=>Y|_=>U)
 |none=>U
def po(G:ca)(agg:Bool):cu (eD×bX×Nat)->cu MapEntry->Prop
 | [],[]=>True
 |e::es,x::xs=>(x.key=ob agg e.1/\eR G e.2.1 x.val/\x.born=e.2.2)/\po G agg es xs
 |_,_=>False
def po.length:∀ {es:cu (eD×bX×Nat)} {xs:cu MapEntry},po G agg es xs->aa xs=aa es
 | [],[],_=>rfl
 | [],_::_,h=>h.elim
 |_::_,[],h=>h.elim
 |_::es,_::xs,h=>by simp[po.length h.2]
def po.of:∀ {es:cu (eD×bX×Nat)} {xs:cu MapEntry},aa xs=aa es->(∀i (h:i<aa es) (h':i<aa xs),xs[i].key=ob agg es[i].1/\eR G es[i].2.1 xs[i].val/\xs[i].born=es[i].2.2)->po G agg es xs
 | [],[],_,_=>trivial
 | [],_::_,h,_=>by simp at h
 |_::_,[],h,_=>by simp at h
 |e::es,x::xs,h,a=>⟨a 0 (by simp) (by simp),po.of (by simpa using h) (λi h1 h2=>a (i+1) (by simpa using h1) (by simpa using h2))⟩
def po.at:∀ {es:cu (eD×bX×Nat)} {xs:cu MapEntry},po G agg es xs->∀i (h:i<aa es) (h':i<aa xs),xs[i].key=ob agg es[i].1/\eR G es[i].2.1 xs[i].val/\xs[i].born=es[i].2.2
 | [],[],_,i,h,_=>by simp at h
 | [],_::_,h,_,_,_=>h.elim
 |_::_,[],h,_,_,_=>h.elim
 |e::es,x::xs,h,0,_,_=>h.1
 |e::es,x::xs,h,i+1,h1,h2=>po.at h.2 i (by simpa using h1) (by simpa using h2)
theorem Na{p:nt}{es:cu (eD×bX×Nat)}(h:oq G p (.map agg es clock) ho):∃xs:cu MapEntry,ho=Z (.map xs.toArray clock)/\po G agg es xs:=by let ⟨ents,h1,h2,a⟩:=h;exact⟨ents.toList,by simpa using h1,.of (by simpa using h2) (λi h h'=>by grind)⟩
def bK6(p:nt)(clock:Nat)(h:po G agg es xs):oq G p (.map agg es clock) (Z (.map xs.toArray clock)) :=⟨xs.toArray,rfl,by simpa using h.length,λi h1 h2=>by simpa using h.at i h1 (by simpa using h2)⟩
def Found(G:ca)(k:Nat):dv (Nat×bX)->dv (Nat×Value)->Prop
 |none,W=>True
 |some (i,c),Z (j,v)=>i=j/\k<=i/\eR G c v
 |_,_=>False
def WL(d:IntKind)(l:eD):∀(es:cu (eD×bX×Nat)) (xs:cu MapEntry) (i:Nat),po G U es xs ->
  ∃r,fO (.int d) (ob U l) xs i=Z r/\Found G i (nX U l es i) r
 | [],[],i,_=>⟨W,rfl,trivial⟩
 | [],_::_,_,h=>h.elim
 |_::_,[],_,h=>h.elim
 |e::es,x::xs,i,h=>by
  let ⟨⟨h1,h2,_⟩,f⟩:=h;by_cases b:l.headD 0=e.1.headD 0;refine⟨Z (i,x.val),?_,?_⟩;simp only[fO,h1,ob,aF,l4,jw,vE,b,BEq.rfl];simp only[nX,tl,b,BEq.rfl];exact⟨rfl,ay _,h2⟩;let ⟨r,g,a⟩:=WL d l es xs (i+1) f;refine⟨r,?_,?_⟩;simp[fO,jw]
  grind[ob]
  have:tl U l e.1=U:=by simpa[tl]using b
  simp[nX,this];cases hm:nX U l es (i+1)with
  |none=>rw[hm]at a;cases r with
   |none=>trivial
   |some _=>exact a
  |some c =>rw[hm]at a;cases r;exact a;let ⟨j,a2,a3⟩:=a;exact⟨j,by omega,a3⟩
def VY{w:World}(b:TypeId)(l:eD)(g:∀fA:eD,aa fA=aa l->(eP 10000 b (ob Y l) (ob Y fA)).run P w=.ok (l==fA) w) :
  ∀(es:cu (eD×bX×Nat)) (xs:cu MapEntry) (i:Nat),po G Y es xs->(∀e∈es,aa e.1=aa l) ->
  ∃r,(iE b (ob Y l) xs i).run P w=.ok r w/\Found G i (nX Y l es i) r
 | [],[],i,_,_=>⟨W,rfl,trivial⟩
 | [],_::_,_,h,_=>h.elim
 |_::_,[],_,h,_=>h.elim
 |e::es,x::xs,i,h,hl=>by
  let ⟨⟨h1,h2,_⟩,k⟩:=h;have he:=g e.1 (hl e (by simp));by_cases d:(l==e.1)=Y;simp[iE,h1,gG,eJ,he,d];simp[nX,tl,d];exact⟨rfl,ay _,h2⟩;have j:(l==e.1)=U:=by simpa using d
  let ⟨r,f,a⟩:=VY b l g es xs (i+1) k (λe he=>hl e (by simp[he]));simp[iE,h1,gG,eJ,he,j,f];simp[nX,tl,j];cases hm:nX Y l es (i+1)with
  |none=>rw[hm]at a;cases r with
   |none=>trivial
   |some _=>exact a
  |some c =>rw[hm]at a;cases r;exact a;let ⟨m,a2,a3⟩:=a;exact⟨m,by omega,a3⟩
def bJ9{w:World}(e:Bool)(n:Nat)(a:TypeId)(k b:IntKind)(m:Int)(h:(underlying a).run P w=.ok (.int b) w):(bL e (n+1) a (.int k m)).run P w=.ok () w:=by simp[bL,h]
def NG{T:bY}(cb:rk P T){w:World}{c:TypeId}{b:Bool}{es:cu (eD×bX×Nat)}{xs:cu MapEntry}(d:po G b es xs)(hf:tS T c b l es=Y) :
  (∀e,(bL e 10000 c (ob b l)).run P w=.ok () w)/\∃r,(ib c (ob b l) xs).run P w=.ok r w/\Found G 0 (nX b l es 0) r:=by
 unfold tS at hf;split at hf;rename_i ti f;cases b;simp at hf;split at hf;rename_i i hu;have a:=oG cb f w;rw[hu]at a;refine⟨λe=>?_,?_⟩;exact bJ9 e 9999 c .i64 i _ a;let ⟨r,h1,h2⟩:=WL i l es xs 0 d;exact⟨r,by simp[ib,a,h1],h2⟩;cases hf;simp at hf;let ⟨g,j⟩:=hf;let ⟨_,heq⟩:=cb.flat c ti (aa l) f g;have hlen:∀e∈es,aa e.1=aa l:=λe he=>by grind
 refine⟨λe=>by grind[ob],?_⟩;let ⟨r,h1,h2⟩:=VY (P:=P) (w:=w) c l (λfA k=>by grind[ob]) es xs 0 d hlen;have a:=oG cb f w;cases es;cases xs with
 |nil=>exact⟨W,by simp[ib,a,fO],trivial⟩
 |cons _ _=>exact d.elim
 cases xs;exact d.elim;rename_i x xs;refine⟨r,?_,h2⟩;have h:fO ti.j4 (ob Y l) (x::xs) 0=W:=by
  unfold fO;have:jw ti.j4 (ob Y l) x.key=W:=by rw[d.1.1];cases ti.j4<;>rfl
  rw[this]
 simp[ib,a,h,h1];cases hf
def nk.x_(ti:nk):bX:=.ofValue ti.zero
def vO:eX->Bool
 | [k,_]=>k.key.isSome
 |_=>U
def Bc:∀(rs:cu eX) (j:Nat),aa (nT j rs)=aa rs
 | [],_=>rfl
 |_::rs,j=>by simp[nT,Bc rs]
theorem Ff:∀(rs:cu eX) (j i:Nat) (h:i<aa (nT j rs)) (h':i<aa rs),(nT j rs)[i]=oW (j+i) rs[i]
 |r::rs,j,0,_,_=>by simp[nT]
 |r::rs,j,i+1,h,h'=>by simp[nT];rw[Ff rs (j+1) i (by simpa[nT]using h) (by simpa using h')];congr 1;omega
theorem NQ(j:Nat)(r:eX):(oW j r).2.2=j:=by unfold oW;split<;>rfl
def qk(T:bY)(σ:bg)(t:TypeId)(x ix:bX)(a:Bool):dv bX :=
 match T t,ix.key with
 |some { j4:=.map d f,.. },Z (b,l)=>
  match T f with
  |some e=>
   match x with
   | .mm id=>match σ.bF id with
    |some (.map agg es _)=>if(agg=b\/es.isEmpty=Y)/\tS T d b l es=Y then
      let r:=match nX b l es 0 with
       |some (_,c)=>(c,Y)
       |none=>(e.x_,U)
      Z (ite a (.ed [r.1,.b4 (.bool r.2)]) r.1)else W
    |_=>W
   | .mY (.rs rows)=>if(rZ rows=b\/rows.isEmpty=Y)/\tS T d b l (nT 0 rows)=Y/\rows.all vO=Y then
      let r:=match nX b l (nT 0 rows) 0 with
       |some (_,c)=>(c,Y)
       |none=>(e.x_,U)
      Z (ite a (.ed [r.1,.b4 (.bool r.2)]) r.1)else W
   |_=>W
  |none=>W
 |_,_=>W
theorem WE{T:bY}(cb:rk P T){w:World}(h:Rel G σ w){u v:TypeId}(B:T t=Z ti)(hu:ti.j4=.map u v){m:nk}(n:T v=Z m){id:Nat}{y:Value}{ok:Bool}(C:eR G ix y)
  {b:Bool} {l:List Int} (hk:ix.key=Z (b,l))   {o:Nat}  (D:w.heap[o]?=Z (.map xs.toArray clock)) (d:po G agg es xs) (p:agg=b\/es.isEmpty=Y) (hf:tS T u b l es=Y) :
  o_ G σ w σ id (ite ok (.ed [(match nX b l es 0 with|some (_,c)=>(c,Y)|none=>(m.x_,U)).1,.b4 (.bool (match nX b l es 0 with|some (_,c)=>(c,Y)|none=>(m.x_,U)).2)]) (match nX b l es 0 with|some (_,c)=>(c,Y)|none=>(m.x_,U)).1) ((jH t (.map (Z o)) y ok).run P w):=by
 obtain rfl:=bX.V3 hk C;have g:po G b es xs:=by
  rcases p with rfl|he
  exact d;have q:es=[]:=by simpa using he
  subst q;have:xs=[]:=by have:=d.length;simpa using this
  subst this;trivial
 obtain⟨s,r,j,a⟩:=NG cb (P:=P) (w:=w) g hf;have k5:(getObj o).run P w=.ok (.map xs.toArray clock) w:=by simp[getObj,je,D]
 have e:∀(c:bX) (z:Value) (k:Bool),eR G c z->o_ G σ w σ id (ite ok (.ed [c,.b4 (.bool k)]) c) (.ok (ite ok (.tuple #[z,.bool k]) z) w):=λc z k x=>by
  refine o_.same ?_ h;cases ok;exact x;have:=eR.ed (G:=G) [c,.b4 (.bool k)] [z,.bool k] rfl (λi h1 h2=>by
   cases i;exact x;rename_i i;cases i;exact .b4 _;simp at h1;omega)
  exact this
 have f:=oG cb B w;rw[hu]at f;simp only[jH,ax,f,ao,k5,bd,s,j];cases hm:nX b l es 0 with
 |none=>
  rw[hm]at a;cases r with
  |some _=>exact a.elim
  |none =>simp[BG cb n];exact e _ _ U (eR.ofValue G _)
 |some c =>rw[hm]at a;cases r;exact a.elim;exact e _ _ Y a.2.2
def bW8{T:bY}(cb:rk P T){w:World}(h:Rel G σ w){id:Nat}{y:Value}{ok:Bool}(f:eR G x u)(j:eR G ix y)
  (ha:qk T σ t x ix ok=Z v):o_ G σ w σ id v ((jH t u y ok).run P w):=by
 unfold qk at ha;split at ha
 next n o _ _ _ _ b l k hk=>
  split at ha
  next q c=>
   split at ha
   next id'=>
    split at ha
    next agg es clock ho=>
     split at ha
     next hc=>
      cases f with
      |mm _ p hp=>
      have hv:p.mX=U:=by
       rcases h.wY ho hp with⟨_,_,_,d⟩|⟨d,_⟩
       .cases d
       exact d
      let ⟨_,_,g⟩:=h.real ho hp hv
      grind[Na,WE]
     cases ha
    cases ha
   next rows=>
    split at ha
    next hc=>
     cases ha;cases f with
     |mY _ r ents himm hlen uX hrep=>
     have m:=h.lo _ _ himm;have a:po G (rZ rows) (nT 0 rows) ents:=po.of (by rw[hlen,Bc]) (λi h1 h2=>by grind[Ff,NQ]);refine WE cb h k rfl c j hk m a ?_ hc.2.1;rcases hc.1 with e|e
     .exact .inl e
     refine .inr ?_;have:rows=[]:=by simpa using e
     subst this;rfl
    cases ha
   cases ha
  cases ha
 cases ha
def qe(agg:Bool)(l:eD)(v:bX)(clock:Nat)(es:cu (eD×bX×Nat)):cu (eD×bX×Nat)×Nat :=
 match nX agg l es 0 with
 |some (i,_)=>(es.modify i (λe=>(l,v,e.2.2)),clock)
 |none=>(es++[(l,v,clock)],clock+1)
def si(T:bY)(σ:bg)(t:TypeId)(x ix v:bX):dv bg :=
 match T t,ix.key with
 |some { j4:=.map a _,.. },Z (b,l)=>
  match x with
  | .mm id=>match σ.bF id with
   |some (.map agg es clock)=>ite (es.isEmpty/\tS T a b l []=Y) (Z (σ.set id (.map b [(l,v,clock)] (clock+1)))) <|ite (agg=b/\tS T a b l es=Y) (Z (σ.set id (.map agg (qe b l v clock es).1 (qe b l v clock es).2))) <|none
   |_=>W
  |_=>W
 |_,_=>W
def cd1{a:eD}(h:tl agg l a=Y):ob agg l=ob agg a:=by grind[tl,ob]
def ay2:∀ {es:cu (eD×bX×Nat)} {k i:Nat} {c:bX},nX agg l es k=Z (i,c)->∃e,es[i-k]?=Z e/\k<=i/\tl agg l e.1=Y/\e.2.1=c
 | [],k,i,c,h=>by simp[nX]at h
 |e::es,k,i,c,h=>by
  unfold nX at h;split at h
  grind
  let ⟨a,h1,h2,b,d⟩:=ay2 h
  grind
def bJ7(agg:Bool)(l:eD):ga 10000 (ob agg l) (ob agg l)=Y:=by
 cases agg;simp[ob,ga];simp[ob];simp[ga];have:∀l:eD,(((l.map (bK .i64)).zip (l.map (bK .i64))).all λ(x,y)=>ga 9999 x y)=Y:=by
  intro l
  induction l with
  |nil=>rfl
  |cons a l b =>simp only[aD,List.zip_cons_cons,bE,ab];exact⟨by simp[ga],b⟩
 simpa using this l
def po.modify(hv:eR G v z):∀ {es:cu (eD×bX×Nat)} {xs:cu MapEntry} (i:Nat),po G agg es xs ->
  po G agg (es.modify i (λe=>(l,v,e.2.2))) (xs.modify i ({ · with key:=ob agg l,val:=z }))
 | [],[],i,_=>by simp[po]
 | [],_::_,_,h=>h.elim
 |_::_,[],_,h=>h.elim
 |e::es,x::xs,0,h=>by simp;exact⟨⟨rfl,hv,h.1.2.2⟩,h.2⟩
 |e::es,x::xs,i+1,h=>by simp;exact⟨h.1,po.modify hv i h.2⟩
def po.snoc{c:Nat}(hv:eR G v z):∀ {es:cu (eD×bX×Nat)} {xs:cu MapEntry},po G agg es xs ->
  po G agg (es++[(l,v,c)]) (xs++[{ key:=ob agg l,val:=z,born:=c }])
 | [],[],_=>⟨⟨rfl,hv,rfl⟩,trivial⟩
 | [],_::_,h=>h.elim
 |_::_,[],h=>h.elim
 |e::es,x::xs,h=>⟨h.1,po.snoc hv h.2⟩
def WO{w:World}{b:Nat}{o x:Obj}(h:w.heap[b]?=Z x)(a:∀c e f,x≠.cells c e f):(setObj b o).run P w=.ok () (oR w b o):=by
 cases x with
 |cells c e f=>exact b8 rfl (a c e f)
 |_=>simp[setObj,je,h,oR]
def bF6{T:bY}(cb:rk P T){w:World}(h:Rel G σ w){y:Value}(O:eR G x u)(Q:eR G ix y)(hz:eR G v z)
  (ha:si T σ t x ix v=Z σ'):∃w',(gK t u y z).run P w=.ok () w'/\Rel G σ' w'/\Fr G σ w G σ' w':=by
 unfold si at ha;split at ha
 next R S _ _ _ _ b l I hk=>
  split at ha
  next id'=>
   split at ha
   next agg es clock ho=>
    obtain rfl:=bX.V3 hk Q;cases O with
    |mm _ p hp=>
    have hv:p.mX=U:=by
     rcases h.wY ho hp with⟨_,_,_,J⟩|⟨J,_⟩
     .cases J
     exact J
    obtain⟨_,_,C⟩:=h.real ho hp hv;obtain⟨xs,K,d⟩:=Na C;have k5:(getObj p.block).run P w=.ok (.map xs.toArray clock) w:=by simp[getObj,je,K]
    have g:∀o,(setObj p.block o).run P w=.ok () (oR w p.block o):=λo=>WO K (by intro _ _ _ h;cases h);have i:∀(H:Bool) (j:List (List Int×bX×Nat)) (m:List MapEntry) (c:Nat),po G H j m->Rel G (σ.set id' (.map H j c)) (oR w p.block (.map m.toArray c))/\Fr G σ w G (σ.set id' (.map H j c)) (oR w p.block (.map m.toArray c)):=λH j m c he=>⟨h.write ho hp hv _ _ rfl rfl rfl (zG _ _ _) (λk hk=>zz _ _ _ _ hk) (Fs _ _ _ _ K) (bK6 p c he),Fr.write ho hp hv _ (zG _ _ _) (λk hk=>zz _ _ _ _ hk)⟩;split at ha
    next hc=>
     obtain⟨D,hf⟩:=hc;cases ha;have:es=[]:=by simpa using D
     subst this;have:xs=[]:=by have:=d.length;simpa using this
     subst this;obtain⟨n,r,f,a⟩:=NG cb (P:=P) (w:=w) (G:=G) (b:=b) (es:=[]) (xs:=[]) trivial hf;have:r=W:=by cases r with
      |none=>rfl
      |some _=>exact a.elim
     subst this;refine⟨oR w p.block (.map ([({ key:=ob b l,val:=z,born:=clock }:MapEntry)]).toArray (clock+1)),?_,i b _ _ _ ⟨⟨rfl,hz,rfl⟩,trivial⟩⟩;simp[gK,oG cb I,k5,n,f];simp[g]
    split at ha
    next hc=>
     obtain⟨rfl,hf⟩:=hc;cases ha;obtain⟨n,r,f,a⟩:=NG cb (P:=P) (w:=w) d hf;cases hm:nX agg l es 0 with
     |none=>
      rw[hm]at a;have:r=W:=by cases r with
       |none=>rfl
       |some _=>exact a.elim
      subst this;simp[qe,hm];refine⟨oR w p.block (.map (xs++[({ key:=ob agg l,val:=z,born:=clock }:MapEntry)]).toArray (clock+1)),?_,i agg _ _ _ (d.snoc hz)⟩;simp[gK,oG cb I,k5,n,f];simp[g]
     |some c=>
      obtain⟨ci,tR⟩:=c;rw[hm]at a;cases r with
      |none=>exact a.elim
      |some q=>
       obtain⟨qi,qv⟩:=q;obtain⟨rfl,_,_⟩:=a;obtain⟨e,M,_,N,_⟩:=ay2 hm;obtain⟨E,rfl⟩:=aq.1 M;have s:ci<xs.length:=by rw[d.length];exact E
       have uX:xs[ci].key=ob agg l:=by rw[(d.at ci E s).1];exact(cd1 N).symm
       simp[qe,hm];refine⟨oR w p.block (.map (xs.modify ci ({ · with key:=ob agg l,val:=z })).toArray clock),?_,i agg _ _ _ (d.modify hz ci)⟩;simp only[gK,ax,oG cb I,ao,k5,n,f];have B:(km (((xs.toArray[ci]?).map (·.key)).getD (ob agg l)) (ob agg l)).run P w=.ok (ob agg l) w:=by
        have:((xs.toArray[ci]?).map (·.key)).getD (ob agg l)=ob agg l:=by simp[s,uX]
        rw[this];simp[km,bJ7]
       simp only[ B,ao,g];simp
    cases ha
   cases ha
  cases ha
 cases ha
def nZ(G:ca)(σ:bg)(w:World)(σ':bg)(id:Nat)(v:bX)(r:Result Next):Prop :=∃G' u w',G.le G'/\(∀i,i≠id->G.pl i=W->G'.pl i=W)/\(r=.ok (.value u) w'\/(r=.ok .skip w'/\u=undef))/\eR G' v u/\Rel G' σ' w'/\Fr G σ w G' σ' w'
def nZ.of{id:Nat}{s:Sem Value}{w:World}(h:o_ G σ w σ' id v (s.run P w)):nZ G σ w σ' id v ((do pure (Next.value (<-s)):Sem Next).run P w):=by let ⟨G',u,w',h1,h2,a,b,c⟩:=h;exact⟨G',u,w',h1,h2,.inl (by simp[a]),b,c⟩
def nZ.unit{id:Nat}{s:Sem Unit}{w:World}(hs:s.run P w=.ok () w')(h:Rel G σ' w'/\Fr G σ w G σ' w'):nZ G σ w σ' id (.b4 undef) ((do s;pure Next.skip:Sem Next).run P w) :=⟨G,undef,w',.refl G,λ_ _ h=>h,.inr ⟨by simp[hs],rfl⟩,.b4 _,h⟩
def nZ.same{id:Nat}{w:World}(a:eR G v u)(h:Rel G σ w):nZ G σ w σ id v (.ok (.value u) w) :=⟨G,u,w,.refl G,λ_ _ h=>h,.inl rfl,a,h,.refl _ _ _⟩
def p3(T:bY)(σ:bg)(t:TypeId)(x:bX):dv bX :=
 match T t with
 |some ti=>match ti.j4,x with
  | .slice _,.ms _ _ _ len=>Z (.b4 (goInt len))
  | .slice _,.rs es=>Z (.b4 (goInt (aa es)))
  | .slice _,.b4 (.slice W 0 0)=>Z (.b4 (goInt 0))
  | .string,.b4 (.string s)=>Z (.b4 (goInt s.size))
  | .array n _,_=>Z (.b4 (goInt n))
  | .map _ _,.mm id=>match σ.bF id with
   |some (.map _ es _)=>Z (.b4 (goInt (aa es)))
   |_=>W
  |_,_=>W
 |none=>W
def aY3{T:bY}(cb:rk P T){w:World}(h:Rel G σ w){id:Nat}(c:eR G x u)(ha:p3 T σ t x=Z v) :
  o_ G σ w σ id v ((dT #[t] ty #[u]).run P w):=by
 unfold p3 at ha;split at ha
 next ti g=>
  have a:=oG cb g w;have go:∀n:Int,(dT #[t] ty #[u]).run P w=.ok (goInt n) w->o_ G σ w σ id (.b4 (goInt n)) ((dT #[t] ty #[u]).run P w):=λn j=>by rw[j];exact o_.same (.b4 _) h
  split at ha
  next e i m o len hu=>
   cases ha;rw[hu]at a;apply go;cases c<;>simp[dT,a]
  next e es hu=>
   cases ha;rw[hu]at a;apply go;cases c<;>simp[dT,a]
  next e hu=>
   cases ha;rw[hu]at a;apply go;cases c;simp[dT,a]
  next s hu=>
   cases ha;rw[hu]at a;apply go;cases c;simp[dT,a]
  next n e _ hu=>
   cases ha;rw[hu]at a;apply go;simp[dT,a]
  next k e id' hu=>
   split at ha
   next agg es clock ho=>
    cases ha;rw[hu]at a;apply go;cases c with
    |mm _ p hp=>
    have hv:p.mX=U:=by
     rcases h.wY ho hp with⟨_,_,_,f⟩|⟨f,_⟩
     .cases f
     exact f
    obtain⟨_,_,d⟩:=h.real ho hp hv;obtain⟨xs,l,b⟩:=Na d;have k5:(getObj p.block).run P w=.ok (.map xs.toArray clock) w:=by simp[getObj,je,l]
    simp[dT,a,k5,b.length]
   cases ha
  cases ha
 cases ha
def Ag(k:IntKind):Int->eX->dv Value
 |a,[]=>Z (.int k a)
 |a,.b4 (.int _ b)::rest=>Ag k (ite (b > a) b a) rest
 |_,_=>W
def Ah(k:IntKind):Int->eX->dv Value
 |a,[]=>Z (.int k a)
 |a,.b4 (.int _ b)::rest=>Ah k (ite (b<a) b a) rest
 |_,_=>W
def zn:eX->dv Value
 | .b4 (.int k a)::rest=>Ag k a rest
 |_=>W
def zl:eX->dv Value
 | .b4 (.int k a)::rest=>Ah k a rest
 |_=>W
theorem ah8{P:Program}{G:ca}{w:World}(k:IntKind):∀(l:eX) (vs:cu Value) (a:Int) (v:Value),hE G l vs->Ag k a l=Z v->(vs.foldlM Builtin.max2 (.int k a):Sem Value).run P w=.ok v w
 | [],vs,a,v,h,ha=>by rw[h.tr];simp[Ag]at ha;subst ha;simp
 |c::l,vs,a,v,h,ha=>by obtain⟨x,d,rfl,h1,h2⟩:=h.cons_inv;unfold Ag at ha;split at ha;rename_i e;cases e;rename_i f b rest e;cases e;cases h1;have:=ah8 (P:=P) (w:=w) k l d _ v h2 ha;simp only[kV];exact this;cases ha
theorem ag9{P:Program}{G:ca}{w:World}(k:IntKind):∀(l:eX) (vs:cu Value) (a:Int) (v:Value),hE G l vs->Ah k a l=Z v->(vs.foldlM Builtin.min2 (.int k a):Sem Value).run P w=.ok v w
 | [],vs,a,v,h,ha=>by rw[h.tr];simp[Ah]at ha;subst ha;simp
 |c::l,vs,a,v,h,ha=>by obtain⟨x,d,rfl,h1,h2⟩:=h.cons_inv;unfold Ah at ha;split at ha;rename_i e;cases e;rename_i f b rest e;cases e;cases h1;have:=ag9 (P:=P) (w:=w) k l d _ v h2 ha;simp only[kV];exact this;cases ha
def aY8{w:World}{l:eX}{v:Value}(h:hE G l vs)(ha:zn l=Z v):(Builtin.max_ at_ ty vs.toArray).run P w=.ok v w:=by unfold zn at ha;split at ha;obtain⟨x,a,rfl,h1,h2⟩:=h.cons_inv;cases h1;exact ah8 _ _ _ _ _ h2 ha;cases ha
def bb3{w:World}{l:eX}{v:Value}(h:hE G l vs)(ha:zl l=Z v):(Builtin.min_ at_ ty vs.toArray).run P w=.ok v w:=by unfold zl at ha;split at ha;obtain⟨x,a,rfl,h1,h2⟩:=h.cons_inv;cases h1;exact ag9 _ _ _ _ _ h2 ha;cases ha
def rW(T:bY)(σ:bg)(id:Nat)(b:Builtin)(ts:Array TypeId)(args:eX):dv (bX×bg) :=
 match b,ts.toList,args with
 | .len,[t],[x]=>match p3 T σ t x with
  |some v=>Z (v,σ)
  |none=>W
 | .append,[s,x],[a,c]=>qS T σ id s x a c
 | .cap,[t],[x]=>match A7 T t x with
  |some v=>Z (v,σ)
  |none=>W
 | .max,_,l=>match zn l with
  |some v=>Z (.b4 v,σ)
  |none=>W
 | .min,_,l=>match zl l with
  |some v=>Z (.b4 v,σ)
  |none=>W
 |_,_,_=>W
def fb(T:bY)(e:Operand->bX)(σ:bg)(id:Nat)(op:Op):dv (bX×bg) :=
 match op with
 | .move x| .assign x=>Z (e x,σ)
 | .pick c a b=>match e c with
  | .b4 (.bool t)=>Z (ite t (e a) <|e b,σ)
  |_=>W
 | .alloc t=>Aj T σ id t
 | .box t x=>yf σ id t (e x)
 | .build t ps=>match Aa T t (ps.toList.map λ(i,x)=>(i,e x))with
  |some v=>Z (v,σ)
  |none=>W
 | .buildSlice t len ps=>wz T σ id t len (ps.toList.map λ(i,x)=>(i,e x))
 | .load t x=>match tg T σ t (e x)with
  |some v=>Z (v,σ)
  |none=>W
 | .store t a x=>match sq T σ t (e a) (e x)with
  |some σ'=>Z (.b4 undef,σ')
  |none=>W
 | .nilCheck x=>match e x with
  | .mp i j k=>Z (.mp i j k,σ)
  | .fT cs=>Z (.fT cs,σ)
  | .fn (.func f) a b=>Z (.fn (.func f) a b,σ)
  |_=>W
 | .binOp o t x y _=>match q7 T o t (e x) (e y)with
  |some v=>Z (v,σ)
  |none=>W
 | .unOp o _ x=>match wD o (e x)with
  |some v=>Z (v,σ)
  |none=>W
 | .convert s d x=>match w0 T s d (e x)with
  |some v=>Z (v,σ)
  |none=>W
 | .makeFunc f a c=>Z (.fn f (a.toList.map e) (c.toList.map e),σ)
 | .makeMap _ W=>Z (.mm id,σ.set id (.map U [] 0))
 | .slice t x b7 a7 pP=>match uB T t (e x) (b7.map e) (a7.map e) (pP.map e)with
  |some v=>Z (v,σ)
  |none=>W
 | .fieldAddr t x f=>match wB T t (e x) f with
  |some v=>Z (v,σ)
  |none=>W
 | .indexAddr t x i=>match sH T t (e x) (e i)with
  |some v=>Z (v,σ)
  |none=>W
 | .index t x i=>match vZ T t (e x) (e i)with
  |some v=>Z (v,σ)
  |none=>W
 | .lookup t x i ok=>match qk T σ t (e x) (e i) ok with
  |some v=>Z (v,σ)
  |none=>W
 | .mapUpdate t m k x=>match si T σ t (e m) (e k) (e x)with
  |some σ'=>Z (.b4 undef,σ')
  |none=>W
 | .extract x i=>match BO (e x) i with
  |some v=>Z (v,σ)
  |none=>W
 | .call { callee:=.builtin b,args,argTypes }=>rW T σ id b argTypes (args.toList.map e)
 |_=>W
def hE.map(a:∀x,eR G (b x) (ev x)):∀l:cu Operand,hE G (l.map b) (l.map ev)
 | []=>.nil G
 |x::l=>.cons (a x) (hE.map a l)
def hE.WD(c:∀x,eR G (b x) (ev x))(l:cu (Nat×Operand)) :
  (l.map λ(i,x)=>(i,b x)).map (·.1)=(l.map λ(i,x)=>(i,ev x)).map (·.1)/\hE G ((l.map λ(i,x)=>(i,b x)).map (·.2)) ((l.map λ(i,x)=>(i,ev x)).map (·.2)):=by
 refine⟨by simp,?_⟩
 induction l with
 |nil=>exact .nil G
 |cons a l d=>exact .cons (c a.2) d
def xg.map(a:∀x,eR G (b x) (ev x))(o:dv Operand):xg G (o.map b) (o.map ev):=by cases o;trivial;rename_i x;exact a x
def Q3{T:bY}(cb:rk P T){w:World}(h:Rel G σ w){M:Operand->bX}(n:∀x,eR G (M x) (ev x)){id:Nat}(hid:G.pl id=W)(E:id<σ.next)
    (ha:fb T M σ id o.op=Z (v,σ')):nZ G σ w σ' id v ((execOp ev o).run P w):=by
 cases g:o.op with
 |pick c a b =>rw[g]at ha;simp only[fb]at ha;split at ha;rename_i t hc;cases ha;have:=n c;rw[hc]at this;generalize K:ev c=u at this;cases this;simp only[execOp,g,K];refine nZ.same ?_ h;cases t<;>simp<;>exact n _;cases ha
 |move x =>rw[g]at ha;cases ha;simp only[execOp,g];exact nZ.same (n x) h
 |assign x =>rw[g]at ha;cases ha;simp only[execOp,g];exact nZ.same (n x) h
 |alloc t =>rw[g]at ha;simp only[execOp,g];exact nZ.of (ca2 cb h hid E ha)
 |box t x =>rw[g]at ha;simp only[execOp,g];exact nZ.of (aU5 h (n x) hid E ha)
 |build t ps=>
  rw[g]at ha;simp only[fb]at ha;split at ha;rename_i C hv;cases ha;simp only[execOp,g];let ⟨h1,h2⟩:=hE.WD n ps.toList;have:=cc6 (P:=P) (id:=id) cb h h1 h2 hv;refine nZ.of ?_;have e:(ps.toList.map λ(x:Nat×Operand)=>(x.1,ev x.2)).toArray=ps.map λx=>(x.1,ev x.2):=by apply dZ;simp
  rw[e]at this;exact this;cases ha
 |buildSlice t len ps=>
  rw[g]at ha;simp only[execOp,g];let ⟨h1,h2⟩:=hE.WD n ps.toList;have:=bp5 (P:=P) cb h h1 h2 hid E ha;refine nZ.of ?_;have e:(ps.toList.map λ(x:Nat×Operand)=>(x.1,ev x.2)).toArray=ps.map λx=>(x.1,ev x.2):=by apply dZ;simp
  rw[e]at this;exact this
 |load t x =>rw[g]at ha;simp only[fb]at ha;split at ha;rename_i C hv;cases ha;simp only[execOp,g];exact nZ.of (ca8 cb h (n x) hv);cases ha
 |store t a x =>rw[g]at ha;simp only[fb]at ha;split at ha;rename_i σ1 hv;cases ha;simp only[execOp,g];let ⟨w',h1,h2⟩:=cc3 (P:=P) cb h (n a) (n x) hv;exact nZ.unit h1 h2;cases ha
 |nilCheck x =>rw[g]at ha;simp only[fb]at ha;have D:=n x;simp only[execOp,g];split at ha;rename_i i j k e;cases ha;rw[e]at D;generalize ev x=u at D;have H:=D;cases D;exact nZ.same H h;rename_i cs e;cases ha;rw[e]at D;generalize ev x=u at D;have H:=D;cases D;exact nZ.same H h;rename_i f a b e;cases ha;rw[e]at D;generalize ev x=u at D;have H:=D;cases D;exact nZ.same H h;cases ha
 |binOp b t x y yt =>rw[g]at ha;simp only[fb]at ha;split at ha;rename_i C hv;cases ha;simp only[execOp,g];exact nZ.of (aV1 cb h (n x) (n y) hv);cases ha
 |unOp b t x =>rw[g]at ha;simp only[fb]at ha;split at ha;rename_i C hv;cases ha;simp only[execOp,g];exact nZ.of (bd8 h (n x) hv);cases ha
 |convert s d x =>rw[g]at ha;simp only[fb]at ha;split at ha;rename_i C hv;cases ha;simp only[execOp,g];exact nZ.of (aQ1 cb h (n x) hv);cases ha
 |makeFunc f a c=>
  rw[g]at ha;cases ha;simp only[execOp,g];refine nZ.of ?_;refine o_.same ?_ h;have h1:=hE.map n a.toList;have h2:=hE.map n c.toList;have:=eR.fn (G:=G) f _ _ _ _ h1.1 h2.1 h1.2 h2.2;have e:∀l:Array Operand,(l.toList.map ev).toArray=l.map ev:=λl=>by apply dZ;simp
  rw[e,e]at this;exact this
 |makeMap t r =>rw[g]at ha;cases r;cases ha;simp only[execOp,g];refine nZ.of ?_;let p:nt:={ block:=w.heap.size,size:=1,cap:=1 };have O:=h.push (.map #[] 0) id hid E p rfl rfl (.map U [] 0) ⟨#[],rfl,rfl,λi a7=>by simp at a7⟩;exact o_.place (p:=p) hid (.mm id p (ca.sc _ _ _)) O (Fr.push _ id hid p (λ_=>rfl) _ w.drawn);simp[fb]at ha
 |slice t x b7 a7 pP =>rw[g]at ha;simp only[fb]at ha;split at ha;rename_i C hv;cases ha;simp only[execOp,g];exact nZ.of (bX9 cb h (n x) (xg.map n b7) (xg.map n a7) (xg.map n pP) hv);cases ha
 |fieldAddr t x f =>rw[g]at ha;simp only[fb]at ha;split at ha;rename_i C hv;cases ha;simp only[execOp,g];exact nZ.of (bq5 cb h (n x) hv);cases ha
 |indexAddr t x i =>rw[g]at ha;simp only[fb]at ha;split at ha;rename_i C hv;cases ha;simp only[execOp,g];exact nZ.of (bG4 cb h (n x) (n i) hv);cases ha
 |index t x i =>rw[g]at ha;simp only[fb]at ha;split at ha;rename_i C hv;cases ha;simp only[execOp,g];exact nZ.of (aI7 cb h (n x) (n i) hv);cases ha
 |lookup t x i ok =>rw[g]at ha;simp only[fb]at ha;split at ha;rename_i C hv;cases ha;simp only[execOp,g];exact nZ.of (bW8 cb h (n x) (n i) hv);cases ha
 |mapUpdate t m k x =>rw[g]at ha;simp only[fb]at ha;split at ha;rename_i σ1 hv;cases ha;simp only[execOp,g];let ⟨w',h1,h2⟩:=bF6 (P:=P) cb h (n m) (n k) (n x) hv;exact nZ.unit h1 h2;cases ha
 |extract x i =>rw[g]at ha;simp only[fb]at ha;split at ha;rename_i C hv;cases ha;simp only[execOp,g];exact nZ.of (bQ4 h (n x) hv);cases ha
 |call c=>
  rw[g]at ha;let ⟨callee,args,ts⟩:=c;cases callee with
  |value f=>simp[fb]at ha
  |invoke r m=>simp[fb]at ha
  |builtin b=>
   simp only[fb]at ha;have q:=hE.map n args.toList;have z:(args.toList.map ev).toArray=args.map ev:=by apply dZ;simp
   simp only[execOp,g,resolve];unfold rW at ha;split at ha;rename_i t x I hl;split at ha;rename_i C hv;cases ha;have B:ts=#[t]:=by apply dZ;simpa using I
   rw[hl]at q;let ⟨u,us,J,h1,h2⟩:=q.cons_inv;rw[h2.tr]at J;rw[<-z,J,B];exact nZ.of (aY3 cb h h1 hv);cases ha;rename_i s x a c I hl;have B:ts=#[s,x]:=by apply dZ;simpa using I
   rw[hl]at q;let ⟨u,us,J,h1,h2⟩:=q.cons_inv;let ⟨y,ys,N,Q,R⟩:=h2.cons_inv;rw[R.tr]at N;rw[<-z,J,N,B];exact nZ.of (bP0 cb h h1 Q hid E ha);rename_i t x I hl;split at ha;rename_i C hv;cases ha;have B:ts=#[t]:=by apply dZ;simpa using I
   rw[hl]at q;let ⟨u,us,J,h1,h2⟩:=q.cons_inv;rw[h2.tr]at J;rw[<-z,J,B];exact nZ.of (ba1 cb h h1 hv);cases ha;split at ha;rename_i C hv;cases ha;rw[<-z];refine nZ.of ?_;rw[aY8 q hv];exact o_.same (.b4 _) h;cases ha;split at ha;rename_i C hv;cases ha;rw[<-z];refine nZ.of ?_;rw[bb3 q hv];exact o_.same (.b4 _) h;cases ha;cases ha
 |_=>rw[g]at ha;simp[fb]at ha
structure bl where
 n:Nat
 mZ:ef bX
 st:bg
variable {s s':bl}
def bl.get(s:bl)(t:Nat):bX:=(s.mZ.get t).getD (.b4 undef)
def bl.put(s:bl)(d:dv Tmp)(v:bX):bl :=
 match d with
 |some d=>{ s with mZ:=s.mZ.set d (Z v) }
 |none=>s
def bl.eval(s:bl):Operand->bX
 | .tmp t=>s.get t
 | .const v=>.ofValue v
 | .global g=>.b4 (.pointer (Z ⟨g,0,W⟩))
 | .func f=>.fn (.func f) [] []
def bl.I2(s:bl)(d:Nat)(v:bX)(t:Nat):(s.put (Z d) v).get t=if t=d then v else s.get t:=by simp only[bl.get,bl.put,ef.FL];split<;>rfl
@[simp] theorem bl.cf7 (s:bl) (d:dv Tmp) (v:bX):(s.put d v).n=s.n:=by cases d<;>rfl
@[simp] theorem bl.Ch (s:bl) (d:dv Tmp) (v:bX):(s.put d v).st=s.st:=by cases d<;>rfl
structure zc(G:ca)(s:bl)(a:Act)(w:World):Prop where
 defers:a.defers=[]
 size:a.tmps.size=s.n
 tmps:∀t,eR G (s.get t) (a.tmps.getD t undef)
 rel:Rel G s.st w
def zc.eval{w:World}(h:zc G s a w)(x:Operand):eR G (s.eval x) (a.eval x):=by
 cases x with
 |tmp t=>exact h.tmps t
 |const v=>exact eR.ofValue G v
 |global g=>exact .b4 _
 |func f=>exact .fn _ [] [] [] [] rfl rfl (λi h=>by simp at h) (λi h=>by simp at h)
def oz(n:Nat):dv Tmp->Bool
 |some d=>d<n
 |none=>Y
theorem zc.put{w:World}(h:zc G s a w)(b:G.le G')(c:Rel G' σ' w')(hv:eR G' v u)(hd:oz s.n d=Y) :
  zc G' ({ s with st:=σ' }.put d v) (a.put d u) w':=by
 cases d;exact⟨h.defers,h.size,λt=>(h.tmps t).mono b,c⟩;rename_i d;refine⟨h.defers,by simp[jx,h.size],λt=>?_,c⟩;rw[bl.I2];simp only[oz,kA]at hd;simp only[jx];by_cases e:t=d;subst e;simp[h.size,hd];exact hv;rw[cc e];have:(a.tmps.setIfInBounds d u).getD t undef=a.tmps.getD t undef:=by simp[ kx e]
 rw[this];exact(h.tmps t).mono b
def Cx(n:Nat)(G G':ca):Prop:=∀i,i<n->G.pl i=W->G'.pl i=W
def Cx.refl(n:Nat)(G:ca):Cx n G G:=λ_ _ h=>h
def Cx.trans{A:ca}(h:Cx n A B)(k:Cx m B C)(a:n<=m):Cx n A C:=λi a7 ha=>k i (by omega) (h i a7 ha)
structure tb(n:Nat)(G:ca)(σ:bg)(w:World)(G':ca)(σ':bg)(w':World):Prop where
 le:G.le G'
 keeps:Cx n G G'
 next:σ.next<=σ'.next
 bb:Fr G σ w G' σ' w'
def tb.refl(n:Nat)(G:ca)(σ:bg)(w:World):tb n G σ w G σ w:=⟨.refl G,.refl n G,ay _,.refl G σ w⟩
def tb.trans{d e f:ca}{a b:bg}{g i j:World}(h:tb n d σ1 g e a i)(k:tb m e a i f b j)(c:n<=m):tb n d σ1 g f b j :=⟨h.le.trans k.le,h.keeps.trans k.keeps c,bD h.next k.next,h.bb.trans k.bb⟩
def vb(P:Program)(f:FuncId)(args:eX)(σ:bg)(R:bX->bg->Prop):Prop :=∀G vs w,hE G args vs->Rel G σ w->Calls P f vs.toArray w λe w'=>∃v a σ' G',e=.returned v/\tb σ.next G σ w G' σ' w'/\eR G' a v/\Rel G' σ' w'/\R a σ'
def oO(P:Program)(f:FuncId)(args:eX)(σ:bg)(R:bX->bg->Prop):Prop :=
 ∀G vs w,hE G args vs->Rel G σ w->∀(o:Oper) (a:Act) (K:Act->World->Prop) (Q:Exit->Act->World->Prop),
  (∀u b σ' G' w',tb σ.next G σ w G' σ' w'->eR G' b u->Rel G' σ' w'->R b σ'->K (a.put o.dst u) w')->o.upon P a K Q ((callFunc f vs.toArray).run P w)
def oO.Cc      {fn:Func} (g:P.funcs[f]?=Z fn) (b:(fn.name== "runtime.NumGoroutine")=U) (c:fn.body.isNone=U)
  (h:vb P f args σ R):oO P f args σ R:=by
 intro G vs w h1 h2 o a K Q i;have d:(callFunc f vs.toArray).run P w=.ok (.enter f vs.toArray) w:=by simp only[callFunc,ax,run_program,ao,g,b,c,aF,l4,bd]
 rw[d];refine(h G _ w h1 h2).mono ?_;rintro e w' ⟨v,j,σ',G',rfl,k,l,m,n⟩;exact i v j σ' G' w' k l m n
def nw(P:Program)(c:Code)(Q:Exit->bl->Prop)(s:bl):Prop :=∀G a w,zc G s a w->c.wp P (λe b w'=>∃s' G',tb s.st.next G s.st w G' s'.st w'/\zc G' s' b w'/\Q e s') a w
section
variable {P:Program} {Q:Exit->bl->Prop} {s:bl}
def nw.skip(h:Q .normal s):nw P .skip Q s:=λG _ _ a=>wp_skip ⟨s,G,.refl _ _ _ _,a,h⟩
def nw.label{l:Nat}(h:Q .normal s):nw P (.label l) Q s:=λG _ _ a=>wp_label ⟨s,G,.refl _ _ _ _,a,h⟩
def nw.exit{id:Nat}(h:Q (.exit id) s):nw P (.exit id) Q s:=λG _ _ a=>wp_exit ⟨s,G,.refl _ _ _ _,a,h⟩
def nw.ret(h:Q .ret s):nw P .ret Q s:=λG _ _ a=>wp_ret ⟨s,G,.refl _ _ _ _,a,h⟩
def Cw(K:bl->Prop)(Q:Exit->bl->Prop):Exit->bl->Prop
 | .normal,s=>K s
 |e,s=>Q e s
def nw.seq{x y:Code}(h:nw P x (Cw (nw P y Q) Q) s):nw P (.seq x y) Q s:=by
 intro G a w c;refine wp_seq (wp_mono (h G a w c) ?_);rintro e d w' ⟨s',G',b,a2,a3⟩;cases e with
 |normal =>refine wp_mono (a3 G' d w' a2) ?_;rintro l f m ⟨s2,g,i,j,k⟩;exact⟨s2,g,b.trans i b.next,j,k⟩
 |_=>exact⟨s',G',b,a2,a3⟩
def nw.cond{c:Operand}{x y:Code}{t:Bool}(hc:s.eval c=.b4 (.bool t))(h:nw P (ite t x y) Q s):nw P (.cond c x y) Q s:=by intro G a w d;have:=d.eval c;rw[hc]at this;generalize b:a.eval c=u at this;cases this;exact wp_cond b (h G a w d)
def JB(id:Nat)(Q:Exit->bl->Prop):Exit->bl->Prop
 | .exit id',s=>ite (id'=id) (Q .normal s) <|Q (.exit id') s
 |e,s=>Q e s
def bo9:Exit->Prop
 | .goto _=>False
 |_=>True
end
def pv(ops:Array Oper)(s:bl)(o:Oper):dv Bool :=
 match o.guard with
 |none=>Z Y
 |some (j,want)=>match(ops[j]?).bind (·.dst)with
  |some d=>ite (d<s.n) (match s.get d with
    | .b4 (.bool b)=>Z (b==want)
    | .b4 (.tuple _)=>Z U
    |_=>W) <|none
  |none=>W
def zK{b:Bool}{w:World}(h:zc G s a w)(ha:pv ops s o=Z b):cS o (yielded ops a.tmps)=b:=by
 unfold pv at ha;unfold cS;split at ha;rename_i e;cases ha;simp[e];rename_i j want e;simp only[e];split at ha;rename_i d hd;split at ha;rename_i f;have c:=h.tmps d;have k5:a.tmps[d]?=Z (a.tmps.getD d undef):=by simp[h.size,f]
 simp only[yielded,hd,ky,k5];split at ha;rename_i i g;cases ha;rw[g]at c;generalize a.tmps.getD d undef=u at c;cases c;cases i<;>cases want<;>rfl;rename_i g;cases ha;rw[g]at c;generalize a.tmps.getD d undef=u at c;cases c;cases want<;>rfl;cases ha;cases ha;cases ha
def oT(P:Program)(ops:Array Oper)(n0:Nat)(Q:bl->Prop)(l:cu Nat)(s:bl):Prop :=
 ∀G a w,zc G s a w->(∀j∈l,j<ops.size/\G.pl (n0+j)=W)->n0+ops.size<=s.st.next ->
  wpOps P ops (λe b w'=>e=.normal/\∃s' G',tb n0 G s.st w G' s'.st w'/\zc G' s' b w'/\Q s') l a w
section
variable {P:Program} {ops:Array Oper} {n0:Nat} {Q:bl->Prop} {s:bl}
def sh{Q Q':Exit->Act->World->Prop}(h:∀e a w,Q e a w->Q' e a w):∀(l:cu Nat) (a:Act) (w:World),wpOps P ops Q l a w->wpOps P ops Q' l a w
 | [],a,w,b=>h _ _ _ b
 |i::rest,a,w,b=>by
  simp only[wpOps]at b⊢;split;rename_i ho;simp only[ho]at b;exact sh h rest a w b;rename_i o ho;simp only[ho]at b;split;rename_i hw;simp only[hw]at b;rcases b with b|⟨h1,a0,qs,h2⟩
  left;unfold gB at *;generalize(execOp a.eval o).run P w=r at *;cases r with
  |ok n w' =>
   cases n<;>simp only[iW]at b⊢ <;>
    first
     |exact sh h rest _ _ b
     |exact me b (λe d he=>by
       cases e with
       |returned v=>exact sh h rest _ _ he
       |panicked c=>exact h _ _ _ he
       |outgrown=>let ⟨a0,qs,f⟩:=he;exact⟨a0,qs,h _ _ _ f⟩)
     |exact Rows.mono b (λ_ _ he=>sh h rest _ _ he)
  |halt x w'=>cases x<;>simp only[iW]at b⊢<;>first|exact h _ _ _ b|exact b
  exact .inr ⟨h1,a0,qs,h _ _ _ h2⟩;rename_i hw;simp only[hw]at b;exact sh h rest _ _ b
def oT.nil(h:Q s):oT P ops n0 Q [] s:=λG _ _ a _ _=>⟨rfl,s,G,.refl _ _ _ _,a,h⟩
def oT.plain{T:bY}(cb:rk P T)(ho:ops[i]?=Z o)(a7:i∉rest)(hw:pv ops s o=Z Y)(hd:oz s.n o.dst=Y)
  (ha:fb T s.eval s.st (n0+i) o.op=Z (v,σ')) (l:σ'.next=s.st.next) (h:oT P ops n0 Q rest ({ s with st:=σ' }.put o.dst v)):oT P ops n0 Q (i::rest) s:=by
 intro G a w d hf K;have m:=(aP.1 ho).1;simp only[wpOps,ho,zK d hw];left;let ⟨G',u,w',h1,h2,c,p,q,f⟩:=Q3 (P:=P) cb d.rel d.eval (hf i (by simp)).2 (by omega) ha;have g:∀j∈rest,n0+j≠n0+i:=λj hj e=>a7 (by have r:=iX e;rw[<-r];exact hj);have key:=h G' (a.put o.dst u) w' (d.put h1 q p hd) (λj hj=>⟨(hf j (by simp[hj])).1,h2 _ (g j hj) (hf j (by simp[hj])).2⟩) (by simp;omega);have t:tb n0 G s.st w G' σ' w':=⟨h1,λx z B=>h2 x (by omega) B,by omega,f⟩;have b:=sh (P:=P) (ops:=ops) (Q':=λe k w'=>e=.normal/\∃s' G',tb n0 G s.st w G' s'.st w'/\zc G' s' k w'/\Q s') (λe k w' ⟨C,s',D,E,H,I⟩ =>
  ⟨C,s',D,t.trans (by simpa using E) (ay _),H,I⟩) rest _ _ key
 unfold gB;rcases c with c|⟨c,J⟩
 rw[c];exact b;rw[c];subst J;exact b
end
def oO.bq6(b:bX)(c:R b σ)
  (h:∀G vs w,hE G args vs->Rel G σ w->∃u,(callFunc f vs.toArray).run P w=.ok (.value u) w/\eR G b u):oO P f args σ R:=by
 intro G vs w h1 h2 o a K Q d;let ⟨u,hu,e⟩:=h G vs w h1 h2;rw[hu];exact d u b σ G w (.refl _ _ _ _) e h2 c
def nw.region{Q:Exit->bl->Prop}{id:Nat}
  (h:oT P ops s.st.next (Q .normal ·) (aT ops.size) { s with st:={ s.st with next:=s.st.next+ops.size } }):nw P (.region id ops U) Q s:=by
 intro G a w b;refine wp_region ?_;have d:zc G { s with st:={ s.st with next:=s.st.next+ops.size } } a w:=⟨b.defers,b.size,b.tmps,b.rel.next (aZ _ _)⟩;refine sh ?_ _ _ _ (h G a w d (λj hj=>⟨by simpa using hj,b.rel.fresh _ (aZ _ _)⟩) (ay _));rintro e i w' ⟨rfl,s',G',c,f,g⟩;refine⟨s',G',⟨c.le,c.keeps,bD (aZ _ _) c.next,?_⟩,f,g⟩;exact(Fr.less (σ:=s.st) (σ':={ s.st with next:=s.st.next+ops.size }) (λ_ _ h=>h)).trans c.bb
def zk:eX->Nat->ef bX->ef bX
 | [],_,t=>t
 |v::vs,i,t=>zk vs (i+1) (t.set i (Z v))
def at6:∀(vs:eX) (i:Nat) (t:ef bX) (k:Nat),(zk vs i t).get k=if i<=k/\k<i+aa vs then vs[k-i]? else t.get k
 | [],i,t,k=>by simp[zk];intro h1 h2;omega
 |v::vs,i,t,k=>by rw[zk,at6 vs (i+1) _ k,ef.FL];simp only[aA];by_cases e:k=i;subst e;rw[cc (by omega),cr rfl,cr (by omega)];simp;by_cases a:i+1<=k/\k<i+1+aa vs;rw[cr a,cr (by omega)];obtain⟨m,hm⟩:∃m,k-i=m+1:=⟨k-i-1,by omega⟩;rw[hm];simp;congr 1;omega;rw[cc a,cc e,cc (by omega)]
def bl.enter(n:Nat)(args:eX)(σ:bg):bl:={ n:=n,mZ:=zk args 0 .leaf,st:=σ }
def bl.MV(n:Nat)(args:eX)(σ:bg)(t:Nat):(bl.enter n args σ).get t=(args[t]?).getD (.b4 undef):=by simp only[bl.get,bl.enter,at6,ef.uF,qj];split;rfl;rw[bB (by omega)]
def zc.enter{w:World}(ha:hE G args vs)(b:Rel G σ w)(n:Nat)(c:aa args<=n) :
  zc G (bl.enter n args σ) { tmps:=vs.toArray++bq (n-vs.toArray.size) undef,defers:=[] } w:=by
 refine⟨rfl,by simp[bl.enter,ha.1];omega,λt=>?_,b⟩;rw[bl.MV];by_cases a:t<aa args;have h1:t<aa vs:=by rw[ha.1];exact a
 have:=ha.2 t a h1;simpa[a,h1,jI]using this;have h1:¬t<aa vs:=by rw[ha.1];exact a
 have e:(vs.toArray++bq (n-vs.toArray.size) undef).getD t undef=undef:=by simp only[Array.getD_eq_getD_getElem?,jI,List.size_toArray,cc h1];by_cases h2:t-aa vs<n-aa vs;simp[h2];simp[h2]
 rw[e,bB (by omega)];exact .b4 _
def bY0{T:bY}(cb:rk P T){w:World}(h:Rel G σ w)(n:eR G x u)(ha:py T σ t x=Z v) :
  ∃y,(do loadVar t (<-asAddr u):Sem Value).run P w=.ok y w/\eR G v y:=by
 cases n with
 |mp id' i j p hp=>
  simp only[py]at ha;cases ho:σ.bF id' with
  |none=>simp[ho]at ha
  |some o=>
   cases o with
   |row elem size es=>
    simp only[ho]at ha;cases he:es[i]? with
    |none=>simp[he]at ha
    |some cs=>
     simp only[he]at ha;cases c:T t with
     |none=>simp[c]at ha
     |some ti=>
      simp only[c]at ha;let ⟨a7,d⟩:=aq.1 he;have hv:p.mX=U:=by
       rcases h.wY ho hp with⟨_,e,s,h2⟩|⟨h2,_⟩
       cases h2;simp at a7;exact h2
      let ⟨_,_,cells,q,hs,r,hle,g⟩:=h.real ho hp hv;let ⟨hlen,f⟩:=g i a7;rw[d]at hlen;have hbound:∀k,k<aa cs->i*size+k<cells.size:=λk hk=>by rw[r];have:(i+1)*size<=p.cap*size:=b_ _ (by omega);rw[cG]at this;omega
      have:=Fh cb c (P:=P) (G:=G) (w:=w) p.block (i*p.size) cs (λk=>cells.getD (i*size+k) default) j
       (λk hk=>by
        rw[cell_of_row w _ _ cells elem _ q,hs];have:=hbound k hk;simp[this]) (λk hk=>by
        have m:=f k (by rw[d];exact hk) (hbound k hk);have:=hbound k hk;simp only[d]at m;simpa[this]using m) ha
      let ⟨u,hu,l⟩:=this;exact⟨u,by simp only[asAddr,ax,bd,ao,hu],l⟩
   |_=>simp[ho]at ha
 |fT cs a val hs himm hrep=>
  simp only[py]at ha;cases c:T t with
  |none=>simp[c]at ha
  |some ti =>simp only[c]at ha;let ⟨b,o,s⟩:=a;subst hs;let ⟨u,hu,l⟩:=Fh cb c (P:=P) (G:=G) (w:=w) b o cs val 0 (λk hk=>h.cell (himm k hk)) hrep ha;rw[eC]at hu;exact⟨u,by simp only[asAddr,ax,bd,ao,hu],l⟩
 |_=>simp[py]at ha
def y3(T:bY)(s:bl):ResultVar->dv bX
 | .tmp t=>Z (s.get t)
 | .cell a t=>py T s.st t (s.get a)
def uI(T:bY)(s:bl):cu ResultVar->dv eX
 | []=>Z []
 |r::rs=>match y3 T s r,uI T s rs with
  |some v,Z l=>Z (v::l)
  |_,_=>W
def pc(T:bY)(fn:Func)(s:bl):dv bX :=
 match uI T s fn.results.toList with
 |some [v]=>Z v
 |some l=>Z (.ed l)
 |none=>W
def Lu(tmps:Array Value):ResultVar->Sem Value
 | .tmp t=>pure (tmps.getD t undef)
 | .cell a t=>do loadVar t (<-asAddr (tmps.getD a undef))
def bU5(fn:Func)(tmps:Array Value):results fn tmps=(do
  let vs<-fn.results.mapM (Lu tmps)
  pure (if h:vs.size=1 then vs[0]else .tuple vs)):=rfl
def aw9{T:bY}(cb:rk P T){w:World}(h:zc G s a w):∀ {rs:cu ResultVar} {l:eX},uI T s rs=Z l ->
  ∃vs:cu Value,(rs.mapM (Lu a.tmps):Sem (cu Value)).run P w=.ok vs w/\hE G l vs
 | [],l,ha=>by simp[uI]at ha;subst ha;exact⟨[],by simp,.nil G⟩
 |r::rs,l,ha=>by
  unfold uI at ha;split at ha;rename_i v f h1 h2;cases ha;let ⟨vs,b,d⟩:=aw9 cb h h2;have:∃y,(Lu a.tmps r).run P w=.ok y w/\eR G v y:=by
   cases r with
   |tmp t=>simp only[y3,ah]at h1;subst h1;exact⟨_,rfl,h.tmps t⟩
   |cell x t=>exact bY0 cb h.rel (h.tmps x) h1
  let ⟨y,e,c⟩:=this;refine⟨y::vs,?_,.cons c d⟩;simp only[lB,ax,e,ao,b,bd];cases ha
def IF{T:bY}(cb:rk P T){w:World}(h:zc G s a w){fn:Func}(ha:pc T fn s=Z v) :
  ∃y,(results fn a.tmps).run P w=.ok y w/\eR G v y:=by
 unfold pc at ha;have key:∀l,uI T s fn.results.toList=Z l->∃vs:cu Value,(results fn a.tmps).run P w=.ok (if h:aa vs=1 then vs[0]else .tuple vs.toArray) w/\hE G l vs:=λl hl=>by let ⟨vs,b,d⟩:=aw9 (P:=P) cb h hl;refine⟨vs,?_,d⟩;rw[bU5,jd];simp only[ax,my,b];congr 1
 split at ha;rename_i i hl;cases ha;let ⟨vs,h1,h2⟩:=key _ hl;obtain⟨y,ys,rfl,f,g⟩:=h2.cons_inv;rw[g.tr]at h1;exact⟨y,by simpa using h1,f⟩;rename_i l c hl;cases ha;let ⟨vs,h1,h2⟩:=key _ hl;have:aa vs≠1:=λe=>by rw[h2.1]at e;obtain⟨x,rfl⟩:=List.length_eq_one_iff.1 e;exact c x rfl
 rw[dif_neg this]at h1;exact⟨_,h1,.ed _ _ h2.1 h2.2⟩;cases ha
def vb.DS{T:bY}(cb:rk P T){fn:Func}{c:Code}(hf:P.funcs[f]?=Z fn)(j:fn.body=Z c)(k:aa args<=fn.ntmps)
  (h:nw P c (λe s'=>(e=.normal\/e=.ret)/\∃v,pc T fn s'=Z v/\R v s'.st) (bl.enter fn.ntmps args σ)):vb P f args σ R:=by
 intro G vs w ha l;refine calls_of_wp hf j (wp_mono (h G _ w (zc.enter ha l fn.ntmps k)) ?_);rintro e m w' ⟨s',G',d,a,hex,v,hv,g⟩;let ⟨y,i,b⟩:=IF (P:=P) cb a hv;rcases hex with rfl|rfl
 exact⟨a.defers,y,i,y,v,s'.st,G',rfl,d,b,a.rel,g⟩;exact⟨a.defers,y,i,y,v,s'.st,G',rfl,d,b,a.rel,g⟩
section
variable {P:Program} {ops:Array Oper} {n0:Nat} {Q:bl->Prop} {s:bl}
end
inductive qQ where
 |nr
 |oA (id:Nat)
 |ret
def qQ.qP:qQ->Exit
 | .nr=>.normal
 | .oA id=>.exit id
 | .ret=>.ret
section
variable {P:Program} {T:bY}
end
def qb(σ σ':bg):Prop:=σ'.low<=σ.low/\∀i,i<σ'.low->σ'.bF i=σ.bF i
def qb.refl(σ:bg):qb σ σ:=⟨ay _,λ_ _=>rfl⟩
def qb.trans{a b c:bg}(h:qb a b)(k:qb b c):qb a c:=⟨bD k.1 h.1,λi a7=>(k.2 i a7).trans (h.2 i (gH a7 k.1))⟩
def qb.set(σ:bg)(id:Nat)(o:c7):qb σ (σ.set id o):=by
 refine⟨lC _ _,λi a7=>?_⟩;have:i<id:=gH a7 (lj _ _)
 grind[bg.x9]
def qb.del(σ:bg)(id:Nat):qb σ (σ.del id):=by
 refine⟨lC _ _,λi a7=>?_⟩;have:i<id:=gH a7 (lj _ _)
 grind[bg.rK]
def bF8(σ:bg)(s:bX):(oF σ s).next=σ.next/\qb σ (oF σ s):=by unfold oF;split;split;split;exact⟨rfl,.set _ _ _⟩;exact⟨rfl,.refl _⟩;exact⟨rfl,.refl _⟩;exact⟨rfl,.refl _⟩
theorem bK0{T:bY}{id:Nat}{s:bX}(h:qS T σ id sT xT s x=Z (v,σ')):σ'.next=σ.next/\qb σ σ':=by unfold qS at h;split at h;unfold xK at h;split at h;split at h;cases h;exact⟨rfl,.set _ _ _⟩;cases h;cases h;let ⟨b,a⟩:=bF8 σ s;unfold sM at h;split at h;split at h;split at h;split at h;simp only[ah,iq]at h;obtain⟨_,rfl⟩:=h;refine⟨?_,?_⟩;split<;>exact b;split;exact a.trans (qb.trans (.del _ _) (.set _ _ _));exact a.trans (.set _ _ _);cases h;cases h;cases h;cases h
def qq:Op->Bool
 | .store .. | .mapUpdate ..=>Y
 | .call { callee:=.builtin .append,.. }=>Y
 |_=>U
def J9{T:bY}{id:Nat}(h:fb T g σ id op=Z (v,σ')) :
  σ'.next=σ.next/\qb σ σ'/\(qq op=U->σ'=σ\/∃o,σ'=σ.set id o):=by
 have same:σ'=σ->σ'.next=σ.next/\qb σ σ'/\(qq op=U->σ'=σ\/∃o,σ'=σ.set id o):=λe=>by subst e;exact⟨rfl,.refl _,λ_=>.inl rfl⟩
 have new:(∃o,σ'=σ.set id o)->σ'.next=σ.next/\qb σ σ'/\(qq op=U->σ'=σ\/∃o,σ'=σ.set id o):=λ⟨o,e⟩=>by subst e;exact⟨rfl,.set _ _ _,λ_=>.inr ⟨o,rfl⟩⟩
 cases op with
 |pick c a b=>grind[fb]
 |move x=>cases h;exact same rfl
 |assign x=>cases h;exact same rfl
 |build t ps=>grind[fb]
 |load t x=>grind[fb]
 |binOp b t x y yt=>grind[fb]
 |unOp b t x=>grind[fb]
 |convert s d x=>grind[fb]
 |slice t x b7 a7 pP=>grind[fb]
 |fieldAddr t x f=>grind[fb]
 |indexAddr t x i=>grind[fb]
 |index t x i=>grind[fb]
 |lookup t x i ok=>grind[fb]
 |extract x i=>grind[fb]
 |alloc t=>grind[fb,Aj]
 |box t x=>grind[fb,yf]
 |buildSlice t len ps=>
  simp only[fb,wz]at h
  grind
 |nilCheck x=>grind[fb]
 |makeFunc f a c=>cases h;exact same rfl
 |makeMap t r =>cases r;cases h;exact new ⟨_,rfl⟩;rename_i r;simp[fb]at h
 |store t a x=>
  simp only[fb]at h;split at h
  next σ1 hs=>
   cases h;refine⟨?_,?_,λe=>by simp[qq]at e⟩
   all_goals
    unfold sq at hs;split at hs;split at hs;split at hs;split at hs;cases hs;first|rfl|exact .set _ _ _
    cases hs;cases hs;cases hs;cases hs
  cases h
 |mapUpdate t m k x=>
  simp only[fb]at h;split at h
  next σ1 hs=>
   cases h;refine⟨?_,?_,λe=>by simp[qq]at e⟩
   all_goals
    unfold si at hs;split at hs;split at hs;split at hs;split at hs;cases hs;first|rfl|exact .set _ _ _
    split at hs;cases hs;first|rfl|exact .set _ _ _
    cases hs;cases hs;cases hs;cases hs
  cases h
 |call c=>
  let ⟨callee,args,ts⟩:=c;cases callee with
  |value f=>simp[fb]at h
  |invoke r m=>simp[fb]at h
  |builtin b=>
   simp only[fb]at h;unfold rW at h
   grind[bK0,qq]
 |_=>simp[fb]at h
section
variable {T:bY} {F:FuncId->dv Func}
end
def fold{L V:Type}(p:Nat->Bool):cu (L->dv V)->Nat->(L->V)->(L->V)
 | [],_,f=>f
 |u::us,i,f=>fold p us (i+1) (λl=>cond (p i) ((u l).getD (f l)) (f l))
def xA{L V:Type}(l:L):∀(us:cu (L->dv V)) (i:Nat) (f g:L->V),f l=g l->(∀(j:Nat) u,us[j]?=Z u->p (i+j)≠q (i+j)->u l=W) ->
  fold p us i f l=fold q us i g l
 | [],_,f,g,h,_=>h
 |u::us,i,f,g,h,hu=>by simp only[fold];refine xA l us (i+1) _ _ ?_ (λj a h1 h2=>hu (j+1) a (by simpa using h1) (by rw[show i+(j+1)=i+1+j from by omega];exact h2));by_cases e:p i=q i;rw[e,h];have:=hu 0 u rfl (by simpa using e);rw[this,h];cases p i<;>cases q i<;>rfl
def fold_congr{L V:Type}:∀(us:cu (L->dv V)) (i:Nat) (f:L->V),(∀j,i<=j->p j=q j)->fold p us i f=fold q us i f
 | [],_,_,_=>rfl
 |u::us,i,f,h=>by simp only[fold,h i (ay _)];exact fold_congr us (i+1) _ (λj hj=>h j (by omega))
def Bz{L V:Type}(l:L):∀(us:cu (L->dv V)) (i:Nat) (f:L->V) (v:V),(∀(j:Nat) u,us[j]?=Z u->p (i+j)=Y->u l=W)->f l=v->fold p us i f l=v
 | [],_,f,v,_,h=>h
 |u::us,i,f,v,hu,h=>by
  refine Bz l us (i+1) _ v (λj a h1 h2=>hu (j+1) a (by simpa using h1) (by rw[show i+(j+1)=i+1+j from by omega];exact h2)) ?_;cases e:p i with
  |true=>rw[hu 0 u rfl (by simpa using e),h];rfl
  |false=>exact h
theorem Jy{L V:Type}{p:Nat->Bool}(l:L){u0:L->dv V}:∀(us:cu (L->dv V)) (i k:Nat) (f:L->V),us[k]?=Z u0->p (i+k)=U ->
  (∀(j:Nat) u,us[j]?=Z u->k<j->p (i+j)=Y->u0 l≠W->u l=W) ->
  fold (λj=>j==i+k||p j) us i f l=(u0 l).getD (fold p us i f l)
 | [],i,k,f,h,_,_=>by simp at h
 |u::us,i,0,f,h,hp,hu=>by
  simp only[ch,ah]at h;subst h;simp only[eC]at hp;have c:∀j,i+1<=j->(j==i+0||p j)=p j:=λj hj=>by
   have:(j==i+0)=U:=by simp;omega
   rw[this];rfl
  have a7:(i==i+0||p i)=Y:=by simp
  simp only[fold];rw[fold_congr us (i+1) _ c,a7,hp];cases a:u l with
  |none =>exact xA l us (i+1) _ _ (by simp[a]) (λj b _ h2=>b8 rfl h2)
  |some v =>exact Bz l us (i+1) _ v (λj b h1 h2=>hu (j+1) b (by simpa using h1) (by omega) (by rw[show i+(j+1)=i+1+j from by omega];exact h2) (by simp[a])) (by simp[a])
 |u::us,i,k+1,f,h,hp,hu=>by
  have e:(i==i+(k+1)||p i)=p i:=by
   have:(i==i+(k+1))=U:=by simp
   rw[this];rfl
  simp only[fold];rw[e];have:=Jy (p:=p) l us (i+1) k (λl=>cond (p i) ((u l).getD (f l)) (f l)) (by simpa using h) (by rw[show i+1+k=i+(k+1)from by omega];exact hp)
   (λj b h1 h2 d g=>hu (j+1) b (by simpa using h1) (by omega) (by rw[show i+(j+1)=i+1+j from by omega];exact d) g)
  rw[show i+1+k=i+(k+1)from by omega]at this;exact this
def V8(tu:Nat->dv c7):∀gA,(∀i,gA<=i->tu i=W)->∃σ:bg,σ.next=gA/\∀i,σ.bF i=tu i:=by
 have key:∀n (m:Nat),∃σ:bg,σ.next=m/\∀i,σ.bF i=if i<n then tu i else W:=by
  intro n m
  induction n with
  |zero=>exact⟨{ next:=m,mZ:=.leaf },rfl,λi=>by simp[bg.bF,ef.uF]⟩
  |succ n c=>
   let ⟨σ,h1,h2⟩:=c;cases b:tu n with
   |some o =>refine⟨σ.set n o,h1,λi=>?_⟩;rw[bg.x9,h2];by_cases e:i=n;subst e;simp[b];rw[cc e];by_cases a:i<n;rw[cr a,cr (by omega)];rw[cc a,cc (by omega)]
   |none =>refine⟨σ,h1,λi=>?_⟩;rw[h2];by_cases e:i=n;subst e;simp[b];by_cases a:i<n;rw[cr a,cr (by omega)];rw[cc a,cc (by omega)]
 intro gA h;let ⟨σ,h1,h2⟩:=key gA gA;refine⟨σ,h1,λi=>?_⟩;rw[h2];split;rfl;rw[h i (by omega)]
def Rel.JT{w:World}(h:Rel G σ w){o:c7}(ho:σ.bF i=Z o):i<σ.next:=by let ⟨p,hp,_⟩:=h.bF i o ho;exact h.VP hp
def Rel.frame{w:World}(c:Rel G σ w)(f:∀id o,σv.bF id=Z o->σ.bF id=Z o)(d:Rel G' σv' w')(h:Fr G σv w G' σv' w')(hle:G.le G')
  (l:∀id,σ'.next<=id->G'.pl id=W) (m:∀id o,σ'.bF id=Z o->σv'.bF id=Z o\/(σ.bF id=Z o/\σv.bF id=W)):Rel G' σ' w':=by
 have e:∀id o p,σ.bF id=Z o->σv.bF id=W->G.pl id=Z p->p.mX=U->∀id0 o0 p0,σv.bF id0=Z o0->G.pl id0=Z p0->p0.mX=U->p0.block≠p.block :=λid o p h1 h2 r s id0 o0 p0 g1 g2 g3 g4=>by have:=c.sep id0 id o0 o p0 p (f _ _ g1) h1 g2 r g3 s g4;rw[this,h2]at g1;cases g1
 refine⟨d.os,d.tape,d.output,d.size,d.lo,l,λid o ho=>?_,λi j oi oj pi pj h1 h2 r s v1 v2 u=>?_,d.qE⟩;rcases m id o ho with h1|⟨h1,h2⟩
 exact d.bF id o h1;let ⟨p,hp,hl⟩:=c.bF id o h1;refine⟨p,hle.pl _ _ hp,?_⟩;rcases hl with hl|⟨hv,v,z,B⟩
 exact .inl hl;refine .inr ⟨hv,?_,by rw[hle.qs];exact z,?_⟩;cases E:G'.lo p.block with
 |none=>rfl
 |some x=>
  rcases h.lo _ _ E with g|g|⟨id0,o0,p0,g1,g2,g3,g4⟩
  rw[v]at g;cases g;have:=c.r_ h1 hp hv;omega;exact b8 g4 (e id o p h1 h2 hp hv id0 o0 p0 g1 g2 g3)
 rw[h.same p.block (c.r_ h1 hp hv) (e id o p h1 h2 hp hv · · · · · ·)];exact B.mono hle;have n:∀k x,σ.bF k=Z x->∀q,G'.pl k=Z q->G.pl k=Z q:=λk x H q I=>by let ⟨P,t,_⟩:=c.bF k x H;have:=hle.pl _ _ t;rw[I]at this;cases this;exact t
 have fr:∀i j oi oj pi pj,σv'.bF i=Z oi->σ.bF j=Z oj->σv.bF j=W->G'.pl i=Z pi->G'.pl j=Z pj->pi.mX=U->pj.mX=U->pi.block≠pj.block:=by intro i j oi oj pi pj J a2 a3 a4 a5 K C Q;have D:=n j oj a2 pj a5;have M:=c.r_ a2 D C;let ⟨id0,o0,p0,g1,g2,g3,g4⟩:=h.live i oi pi J a4 K (by omega);exact e j oj pj a2 a3 D C id0 o0 p0 g1 g2 g3 (by omega)
 rcases m i oi h1 with a|⟨a,N⟩<;>rcases m j oj h2 with b|⟨b,O⟩
 exact d.sep i j oi oj pi pj a b r s v1 v2 u;exact b8 u (fr i j oi oj pi pj a b O r s v1 v2);exact b8 u.symm (fr j i oj oi pj pi b a N s r v2 v1);exact c.sep i j oi oj pi pj a b (n i oi a pi r) (n j oj b pj s) v1 v2 u
def Fr.frame{w:World}(e:Rel G σ w)(c:∀id o,σv.bF id=Z o->σ.bF id=Z o)(d:Fr G σv w G' σv' w')(hle:G.le G')
  (h:∀id o,σ'.bF id=Z o->σv'.bF id=Z o\/(σ.bF id=Z o/\σv.bF id=W)):Fr G σ w G' σ' w':=by
 refine⟨d.size,λb i k=>d.same b i (λid o p h1 h2 f=>k id o p (c _ _ h1) h2 f),λid o p h1 h2 f l=>?_,λb o i=>?_,d.drawn⟩;rcases h id o h1 with a|⟨a,_⟩
 let ⟨id0,o0,p0,g1,g2,g3,g4⟩:=d.live id o p a h2 f l;exact⟨id0,o0,p0,c _ _ g1,g2,g3,g4⟩;let ⟨q,j,_⟩:=e.bF id o a;have:=hle.pl _ _ j;rw[h2]at this;cases this;exact⟨id,o,p,a,j,f,rfl⟩;rcases d.lo b o i with g|g|⟨id0,o0,p0,g1,g2,g3,g4⟩
 exact .inl g;exact .inr (.inl g);exact .inr (.inr ⟨id0,o0,p0,c _ _ g1,g2,g3,g4⟩)
def pn(mx:Nat->bX):Operand->bX
 | .tmp t=>mx t
 | .const v=>.ofValue v
 | .global g=>.b4 (.pointer (Z ⟨g,0,W⟩))
 | .func f=>.fn (.func f) [] []
def bl.eval_eq(s:bl)(x:Operand):s.eval x=pn s.get x:=by cases x<;>rfl
structure yh(G:ca)(n:Nat)(mx:Nat->bX)(σ:bg)(a:Act)(w:World):Prop where
 defers:a.defers=[]
 size:a.tmps.size=n
 tmps:∀t,eR G (mx t) (a.tmps.getD t undef)
 rel:Rel G σ w
def yh.eval{w:World}(h:yh G n mx σ a w)(x:Operand):eR G (pn mx x) (a.eval x):=by
 cases x with
 |tmp t=>exact h.tmps t
 |const v=>exact eR.ofValue G v
 |global g=>exact .b4 _
 |func f=>exact .fn _ [] [] [] [] rfl rfl (λi h=>by simp at h) (λi h=>by simp at h)
def tZ(d:dv Tmp)(v:bX):Nat->dv bX:=λt=>ite (d=Z t) (Z v) W
theorem yh.put{w:World}(h:yh G n mx σ a w)(b:G.le G')(c:Rel G' σ' w')(hv:eR G' v u)(hd:oz n d=Y) :
  yh G' n (λt=>(tZ d v t).getD (mx t)) σ' (a.put d u) w':=by
 cases d;exact⟨h.defers,h.size,λt=>(h.tmps t).mono b,c⟩;rename_i d;refine⟨h.defers,by simp[jx,h.size],λt=>?_,c⟩;simp only[oz,kA]at hd;simp only[jx,tZ];by_cases e:d=t;subst e;simp[h.size,hd];exact hv;simp[e];simpa using(h.tmps t).mono b
def yC(ops:Array Oper)(n:Nat)(mx:Nat->bX)(o:Oper):dv Bool :=
 match o.guard with
 |none=>Z Y
 |some (j,want)=>match(ops[j]?).bind (·.dst)with
  |some d=>ite (d<n) (match mx d with
    | .b4 (.bool b)=>Z (b==want)
    | .b4 (.tuple _)=>Z U
    |_=>W) <|none
  |none=>W
def Ip{a:Nat->bX}(h:∀t∈o.looksAt ops,mx t=a t):yC ops n mx o=yC ops n a o:=by
 unfold yC;cases b:o.guard with
 |none=>rfl
 |some q=>
  let ⟨j,want⟩:=q;simp only;cases hd:(ops[j]?).bind (·.dst)with
  |none=>rfl
  |some d =>have:=h d (by unfold lS;rw[b];simp[hd]);simp only[this]
def IP{b:Bool}{w:World}(h:yh G n mx σ a w)(ha:yC ops n mx o=Z b):cS o (yielded ops a.tmps)=b:=by
 unfold yC at ha;unfold cS;split at ha;rename_i e;cases ha;simp[e];rename_i j want e;simp only[e];split at ha;rename_i d hd;split at ha;rename_i f;have c:=h.tmps d;have k5:a.tmps[d]?=Z (a.tmps.getD d undef):=by simp[h.size,f]
 simp only[yielded,hd,ky,k5];split at ha;rename_i i g;cases ha;rw[g]at c;generalize a.tmps.getD d undef=u at c;cases c;cases i<;>cases want<;>rfl;rename_i g;cases ha;rw[g]at c;generalize a.tmps.getD d undef=u at c;cases c;cases want<;>rfl;cases ha;cases ha;cases ha
def Ni{a:Nat->bX}(h:∀t∈o.looksAt ops,mx t=a t):∀x∈o.op.operands,pn mx x=pn a x:=by
 intro x b;cases x with
 |tmp t=>exact h t (by unfold lS;exact dz _ (dh.2 ⟨.tmp t,by simpa using b,rfl⟩))
 |_=>rfl
def FB{a:Operand->bX}{l:Array Operand}(h:∀x∈l,b x=a x):l.toList.map b=l.toList.map a:=cw λx c=>h x (by simpa using c)
def aE6{T:bY}{q:Operand->bX}{id:Nat}(h:∀x∈op.operands,q x=g x):fb T q σ id op=fb T g σ id op:=by
 have j:∀ps:Array (Nat×Operand),(∀x∈(ps.toList.map (·.2)),q x=g x)->(ps.toList.map λ(p:Nat×Operand)=>(p.1,q p.2))=(ps.toList.map λ(p:Nat×Operand)=>(p.1,g p.2)):=λps hp=>cw λp hm=>by grind
 cases op with
 |pick c a b=>simp only[fb];rw[h c (by simp[bc]),h a (by simp[bc]),h b (by simp[bc])]
 |move x=>simp only[fb];rw[h x (by simp[bc])]
 |assign x=>simp only[fb];rw[h x (by simp[bc])]
 |alloc t=>rfl
 |box t x=>simp only[fb];rw[h x (by simp[bc])]
 |build t ps=>simp only[fb];rw[j ps (λx n=>h x (by simpa[bc]using n))]
 |buildSlice t len ps=>simp only[fb];rw[j ps (λx n=>h x (by simpa[bc]using n))]
 |load t x=>simp only[fb];rw[h x (by simp[bc])]
 |store t a x=>simp only[fb];rw[h a (by simp[bc]),h x (by simp[bc])]
 |nilCheck x=>simp only[fb];rw[h x (by simp[bc])]
 |binOp b t x y yt=>simp only[fb];rw[h x (by simp[bc]),h y (by simp[bc])]
 |unOp b t x=>simp only[fb];rw[h x (by simp[bc])]
 |convert s d x=>simp only[fb];rw[h x (by simp[bc])]
 |makeFunc f a c=>simp only[fb];rw[FB (l:=a) (λx n=>h x (by simp[bc,n])),FB (l:=c) (λx n=>h x (by simp[bc,n]))]
 |makeMap t r=>cases r<;>rfl
 |slice t x b7 a7 pP=>
  simp only[fb];rw[h x (by simp[bc])];have e:∀o:dv Operand,(∀y,o=Z y->q y=g y)->o.map q=o.map g:=λo ho=>by cases o with
   |none=>rfl
   |some y=>simp[ho y rfl]
  rw[e b7 (λy u=>h y (by simp[bc,u])),e a7 (λy u=>h y (by simp[bc,u])),e pP (λy u=>h y (by simp[bc,u]))]
 |fieldAddr t x f=>simp only[fb];rw[h x (by simp[bc])]
 |indexAddr t x i=>simp only[fb];rw[h x (by simp[bc]),h i (by simp[bc])]
 |index t x i=>simp only[fb];rw[h x (by simp[bc]),h i (by simp[bc])]
 |lookup t x i ok=>simp only[fb];rw[h x (by simp[bc]),h i (by simp[bc])]
 |mapUpdate t m k x=>simp only[fb];rw[h m (by simp[bc]),h k (by simp[bc]),h x (by simp[bc])]
 |extract x i=>simp only[fb];rw[h x (by simp[bc])]
 |call c=>
  let ⟨callee,args,ts⟩:=c
  cases callee with
  |builtin b=>simp only[fb];rw[FB (l:=args) (λx n=>h x (by simp[bc,gy,n]))]
  |value f=>rfl
  |invoke r m=>rfl
 |_=>rfl
def bX.v7:bX->cu Nat
 | .ms id _ _ _=>[id]
 | .mp id _ _=>[id]
 | .mm id=>[id]
 | .c8 id _ _=>[id]
 | .l3 id _ _=>[id]
 |_=>[]
def oe(b:Operand->bX):Op->cu Nat
 | .load _ x=>(b x).v7
 | .store _ a _=>(b a).v7
 | .lookup _ x _ _=>(b x).v7
 | .mapUpdate _ m _ _=>(b m).v7
 | .call { callee:=.builtin _,args:=args,.. }=>(args.toList.map λx=>(b x).v7).flatten
 |_=>[]
def z6(σ:bg):cu Nat->bg->bg
 | [],t=>t
 |i::is,t=>z6 σ is (match σ.bF i with|some o=>t.set i o|none=>t)
def small(σ:bg)(ids:cu Nat):bg:=z6 σ ids { next:=σ.next,mZ:=.leaf }
theorem V_(σ:bg):∀(is:cu Nat) (t:bg) (k:Nat),(∀o,t.bF k=Z o->σ.bF k=Z o)->(z6 σ is t).bF k=if k∈is then σ.bF k else t.bF k
 | [],t,k,_=>by simp[z6]
 |i::is,t,k,h=>by
  simp only[z6];have h':∀o,(match σ.bF i with|some o=>t.set i o|none=>t).bF k=Z o->σ.bF k=Z o:=λo ho=>by
   cases a7:σ.bF i with
   |none=>rw[a7]at ho;exact h o ho
   |some x =>rw[a7]at ho;simp only[bg.x9]at ho;split at ho;rename_i e;subst e;rw[a7];exact ho;exact h o ho
  rw[V_ σ is _ k h'];by_cases e:k∈is;simp[e];rw[cc e];by_cases a:k=i;subst a;rw[cr (by simp)];cases a7:σ.bF k with
  |none=>
   simp only;cases b:t.bF k with
   |none=>rfl
   |some o=>have:=h o b;rw[a7]at this;cases this
  |some x=>simp[bg.x9]
  rw[cc (by simp[e,a])];cases a7:σ.bF i with
  |none=>rfl
  |some x=>simp[bg.x9,a]
theorem I0(σ:bg)(ids:cu Nat)(k:Nat):(small σ ids).bF k=if k∈ids then σ.bF k else W:=by grind[small,V_,bg.bF,ef.uF]
theorem bm0{T:bY}{k y:bX}(hs:si T σ t x k y=Z σ'):si T { σ with next:=m } t x k y=Z { σ' with next:=m }:=by unfold si at hs⊢;split at hs;split at hs;have e:∀k,({ σ with next:=m }:bg).bF k=σ.bF k:=λ_=>rfl;simp only[e];split at hs;split at hs;rename_i a;cases hs;rw[cr a];rfl;rename_i a;rw[cc a];split at hs;rename_i b;cases hs;rw[cr b];rfl;cases hs;cases hs;cases hs;cases hs
theorem bp2{T:bY}{id:Nat}{s:bX}(h:sM T σ id sT xT s x=Z (v,σ')):sM T { σ with next:=m } id sT xT s x=Z (v,{ σ' with next:=m }):=by unfold sM at h⊢;split at h;split at h;have a:∀e z y,ry { σ with next:=m } e z y=ry σ e z y:=λ_ _ _=>rfl;have b:∀y,oS { σ with next:=m } y=oS σ y:=λ_=>rfl;simp only[a,b];split at h;split at h;rename_i c;obtain⟨rfl,rfl⟩:=h;rw[cr c];split<;>rfl;cases h;cases h;cases h;cases h
theorem bm7(σ:bg)(m:Nat)(s:bX):oF { σ with next:=m } s={ oF σ s with next:=m }:=by unfold oF;split;rename_i id z len;have e:({ σ with next:=m }:bg).bF id=σ.bF id:=rfl;rw[e];split;split<;>rfl;rfl;rfl
theorem bn4{T:bY}{id:Nat}{s:bX}(h:qS T σ id sT xT s x=Z (v,σ')):qS T { σ with next:=m } id sT xT s x=Z (v,{ σ' with next:=m }):=by
 unfold qS at h⊢;split at h;unfold xK at h⊢;split at h;split at h;rename_i a;rw[cr a];cases h;rfl;cases h;cases h
 grind[bm7,bp2]
def bX3{T:bY}{id:Nat}(h:fb T g σ id op=Z (v,σ')):fb T g { σ with next:=m } id op=Z (v,{ σ' with next:=m }):=by
 cases op with
 |pick c a b=>grind[fb]
 |move x=>cases h;rfl
 |assign x=>cases h;rfl
 |build t ps=>grind[fb]
 |binOp b t x y yt=>grind[fb]
 |unOp b t x=>grind[fb]
 |convert s d x=>grind[fb]
 |slice t x b7 a7 pP=>grind[fb]
 |fieldAddr t x f=>grind[fb]
 |indexAddr t x i=>grind[fb]
 |index t x i=>grind[fb]
 |extract x i=>grind[fb]
 |load t x=>
  simp only[fb]at h⊢;have e:tg T { σ with next:=m } t (g x)=tg T σ t (g x):=rfl;split at h
  grind
  cases h
 |lookup t x i ok=>
  simp only[fb]at h⊢;have e:qk T { σ with next:=m } t (g x) (g i) ok=qk T σ t (g x) (g i) ok:=rfl;split at h
  grind
  cases h
 |alloc t =>simp only[fb,Aj]at h⊢;split at h;cases h;(try simp only);rfl;cases h
 |box t x =>simp only[fb,yf]at h⊢;split at h;cases h;(try simp only);rfl;cases h
 |buildSlice t len ps =>simp only[fb,wz]at h⊢;split at h;split at h;split at h;rename_i j;split at h;cases h;(try simp only[ j]);rfl;cases h;cases h;cases h;cases h
 |nilCheck x=>grind[fb]
 |makeFunc f a c=>cases h;rfl
 |makeMap t r =>cases r;cases h;rfl;simp[fb]at h
 |store t a x=>
  simp only[fb]at h⊢;split at h;rename_i σ1 hs;cases h;have e:sq T { σ with next:=m } t (g a) (g x)=Z { σ' with next:=m }:=by unfold sq at hs⊢;split at hs;have e:∀k,({ σ with next:=m }:bg).bF k=σ.bF k:=λ_=>rfl;simp only[e];split at hs;split at hs;split at hs;rename_i l;cases hs;rw[cr l];rfl;cases hs;cases hs;cases hs;cases hs
  simp only[e];cases h
 |mapUpdate t x k y=>grind[fb,bm0]
 |call c=>
  let ⟨callee,args,ts⟩:=c;cases callee with
  |value f=>simp[fb]at h
  |invoke r m=>simp[fb]at h
  |builtin b=>
   simp only[fb]at h⊢;unfold rW at h⊢;split at h;have e:∀t x,p3 T { σ with next:=m } t x=p3 T σ t x:=λ_ _=>rfl;split at h
   grind
   cases h
   grind[bn4]
   split at h
   grind
   cases h;split at h
   grind
   cases h;split at h
   grind
   cases h;cases h
 |_=>simp[fb]at h
structure AN where
 uU:Nat->Option bX
 tC:Nat->Option (Option c7)
 uf:Option Nat
def xI(P:Program)(ops:Array Oper)(n n0 N i:Nat)(cond:(Nat->bX)->bg->Prop)(ev:AN):Prop :=
 ∀G a w mx σ,yh G n mx σ a w->cond mx σ->G.pl (n0+i)=W->n0+N<=σ.next->∀(K:Act->World->Prop) (Q:Exit->Act->World->Prop),
  (∀G' b w' σ',G.le G'->(∀j,j<n0+N->j≠n0+i->G.pl j=W->G'.pl j=W)->σ.next<=σ'.next->Fr G σ w G' σ' w'->yh G' n (λt=>(ev.uU t).getD (mx t)) σ' b w' ->
   (∀id,σ'.bF id=(ev.tC id).getD (σ.bF id))->σ'.next=ev.uf.getD σ.next->K b w')->wpOp P ops Q i K a w
section
variable {P:Program} {T:bY} {ops:Array Oper} {n n0 N i:Nat} {o:Oper} {tm0:Nat->bX}
def bH2(ho:ops[i]?=Z o)(hw:yC ops n tm0 o=Z U)(hd:oz n o.dst=Y) :
  xI P ops n n0 N i (λmx _=>∀t∈o.looksAt ops,mx t=tm0 t) ⟨tZ o.dst (.b4 undef),λ_=>W,W⟩:=by
 intro G a w mx σ b hc _ _ K Q c;unfold wpOp;simp only[ho,IP b ((Ip hc).trans hw)];exact c G _ w σ (.refl G) (λ_ _ _ h=>h) (ay _) (.refl _ _ _) (b.put (.refl G) b.rel (.b4 _) hd) (λ_=>rfl) rfl
def bq4(cb:rk P T)(ho:ops[i]?=Z o)(a7:i<N)(hw:yC ops n tm0 o=Z Y)(hd:oz n o.dst=Y)(st:bg)(v:bX)(σ1:bg)
  (ha:fb T (pn tm0) (small st (oe (pn tm0) o.op)) (n0+i) o.op=Z (v,σ1)) :
  xI P ops n n0 N i (λmx σ=>(∀t∈o.looksAt ops,mx t=tm0 t)/\∀id∈oe (pn tm0) o.op,σ.bF id=st.bF id)
   ⟨tZ o.dst v,λid=>ite (qq o.op=Y/\id∈oe (pn tm0) o.op) (Z (σ1.bF id)) <|ite (id=n0+i) (match σ1.bF id with|some x=>Z (Z x)|none=>W) W,W⟩:=by
 intro G a w mx σ b ⟨e,E⟩ c S K Q H;let σv:bg:={ small st (oe (pn tm0) o.op)with next:=σ.next };have hv:∀id x,σv.bF id=Z x->σ.bF id=Z x:=λid x f=>by
  have:(small st (oe (pn tm0) o.op)).bF id=Z x:=f
  grind[I0]
 have p:Rel G σv w:=b.rel.less rfl hv;have g:fb T (pn tm0) σv (n0+i) o.op=Z (v,{ σ1 with next:=σ.next }):=bX3 ha;rw[<-aE6 (Ni e)]at g;let ⟨G',u,w',h1,h2,h,I,q,B⟩:=Q3 (P:=P) cb p b.eval c (by show n0+i<σ.next;omega) g;have C:=J9 ha;let ⟨σ',r,k⟩:=V8 (λid=>((ite (qq o.op=Y/\id∈oe (pn tm0) o.op) (Z (σ1.bF id)) <|ite (id=n0+i) (match σ1.bF id with|some x=>Z (Z x)|none=>W) <|none:dv (dv c7))).getD (σ.bF id)) σ.next (λid hid=>by
  have s:({ σ1 with next:=σ.next }:bg).bF id=W:=by
   cases z:({ σ1 with next:=σ.next }:bg).bF id with
   |none=>rfl
   |some x=>have:=q.JT z;exact b8 this (by show ¬id<σ.next;omega)
  have D:σ1.bF id=W:=s;have J:σ.bF id=W:=by
   cases z:σ.bF id with
   |none=>rfl
   |some x=>have:=b.rel.JT z;omega
  grind)
 have l:∀id x,σ'.bF id=Z x->({ σ1 with next:=σ.next }:bg).bF id=Z x\/(σ.bF id=Z x/\σv.bF id=W):=λid x f=>by
  rw[k]at f;show σ1.bF id=Z x\/_;split at f;exact .inl (by simpa using f);have M:σ.bF id=Z x->σ1.bF id=Z x\/(σ.bF id=Z x/\σv.bF id=W):=λhs=>by
   by_cases hm:id∈oe (pn tm0) o.op
   grind[ I0,bg.x9]
   refine .inr ⟨hs,?_⟩;show(small st (oe (pn tm0) o.op)).bF id=W;rw[I0,cc hm]
  grind
 have d:=b.rel.frame hv q B h1 (λid hid=>q.fresh id (by show σ.next<=id;omega)) l;have m:=Fr.frame b.rel hv B h1 l;unfold wpOp;simp only[ho,IP b ((Ip e).trans hw)];left;have fin:=H G' (a.put o.dst u) w' σ' h1 (λj _ hj O=>h2 j hj O) (by omega) m (b.put h1 d I hd) k (by simp[r]);unfold gB;rcases h with h|⟨h,R⟩
 rw[h];exact fin;rw[h];subst R;exact fin
end
section
variable {P:Program} {ops:Array Oper} {n n0 N i:Nat} {o:Oper} {tm0:Nat->bX}
def bI9{B:Operand}{args:Array Operand}{first:eX}(ho:ops[i]?=Z o)(l:o.op=.call { callee:=.value B,args:=args,argTypes:=ts })
  (hw:yC ops n tm0 o=Z Y) (hd:oz n o.dst=Y) (R:pn tm0 B=.fn (.func f) first cap)
  (st view:bg) (v:bX) (σ1:bg) (ex:Nat->Bool) (m:view.next=st.next) (p:∀id,view.bF id=if ex id then W else st.bF id) (C:∀id,id<st.next->σ1.bF id=view.bF id)
  (hc:oO P f (first++args.toList.map (pn tm0)++cap) view (λS b=>S=v/\b=σ1)) :
  xI P ops n n0 N i (λmx σ=>(∀t∈o.looksAt ops,mx t=tm0 t)/\σ.next=st.next/\∀id,ex id=U->σ.bF id=st.bF id)
   ⟨tZ o.dst v,λid=>ite (id<st.next) W <|some (σ1.bF id),Z σ1.next⟩:=by
 intro G a w mx σ q ⟨D,E,hc3⟩ hfree hN K Q hK;have g:∀id x,view.bF id=Z x->σ.bF id=Z x:=λid x c=>by rw[p]at c;split at c;cases c;rename_i he;rw[hc3 id (by simpa using he)];exact c
 have hrv:=q.rel.less (by rw[m,E]) g;have d:=Ni (ops:=ops) D;have H:pn mx B=.fn (.func f) first cap:=by rw[d B (by rw[l];simp[bc,gy])];exact R
 have h:args.toList.map (pn mx)=args.toList.map (pn tm0):=FB (λx c=>d x (by rw[l];simp[bc,gy,c]));have r:=q.eval B;rw[H]at r;generalize hev:a.eval B=u at r;cases r with
 |fn _ _ _ fv cv h1 h2 h3 h4=>
 have s:hE G (first++args.toList.map (pn tm0)++cap) (fv++args.toList.map a.eval++cv):=by rw[<-h];exact(hE.append (G:=G) ⟨h1,h3⟩ (hE.map q.eval args.toList)).append ⟨h2,h4⟩
 have I:(execOp a.eval o).run P w=(callFunc f (fv++args.toList.map a.eval++cv).toArray).run P w:=by
  have e:fv.toArray++args.map a.eval++cv.toArray=(fv++args.toList.map a.eval++cv).toArray:=by apply dZ;simp
  simp only[execOp,l,resolve,hev,ij,ax,bd,ao,invoke,e]
 unfold wpOp;simp only[ho,IP q ((Ip D).trans hw)];left;unfold gB;rw[I];refine hc G _ w s hrv o a _ _ ?_;rintro S av b G' w' k b2 b3 ⟨rfl,rfl⟩;have hnx:st.next<=b.next:=by rw[<-m];exact k.next
 let ⟨σ',hn',J⟩:=V8 (λid=>((ite (id<st.next) W <|some (b.bF id):dv (dv c7))).getD (σ.bF id)) b.next (λid hid=>by
  rw[cc (by omega)];cases hh:b.bF id with
  |none=>rfl
  |some x=>have:=b3.JT hh;omega)
 have M:∀id x,σ'.bF id=Z x->b.bF id=Z x\/(σ.bF id=Z x/\view.bF id=W):=λid x c=>by
  rw[J]at c;split at c;rename_i hlt;simp only[kz]at c;cases hv:view.bF id with
  |none=>exact .inr ⟨c,rfl⟩
  |some y =>have:=g id y hv;rw[c]at this;cases this;exact .inl (by rw[C id hlt];exact hv)
  exact .inl (by simpa using c)
 have z:=q.rel.frame g b3 k.bb k.le (λid hid=>b3.fresh id (by omega)) M;have O:=Fr.frame q.rel g k.bb k.le M;exact hK G' (a.put o.dst S) w' σ' k.le (λj hj _ hg=>k.keeps j (by rw[m,<-E];omega) hg) (by omega) O (q.put k.le z b2 hd) J (by simp[hn'])
def bR3{l:Operand}{args:Array Operand}{first:eX}(ho:ops[i]?=Z o)(g:o.op=.call { callee:=.value l,args:=args,argTypes:=ts })
  (hw:yC ops n tm0 o=Z Y) (hd:oz n o.dst=Y) (C:pn tm0 l=.fn (.func f) first cap)
  (st:bg) (v:bX) (σ1:bg) (hc:oO P f (first++args.toList.map (pn tm0)++cap) st (λD b=>D=v/\b=σ1)) :
  xI P ops n n0 N i (λmx σ=>(∀t∈o.looksAt ops,mx t=tm0 t)/\σ.next=st.next/\∀id,σ.bF id=st.bF id)
   ⟨tZ o.dst v,λid=>Z (σ1.bF id),Z σ1.next⟩:=by
 intro G a w mx σ m ⟨p,E,H⟩ I hN K Q R;have q:∀id x,st.bF id=Z x->σ.bF id=Z x:=λid x J=>by rw[H];exact J
 have M:=m.rel.less E.symm q;have c:=Ni (ops:=ops) p;have r:pn mx l=.fn (.func f) first cap:=by rw[c l (by rw[g];simp[bc,gy])];exact C
 have d:args.toList.map (pn mx)=args.toList.map (pn tm0):=FB (λx J=>c x (by rw[g];simp[bc,gy,J]));have h:=m.eval l;rw[r]at h;generalize O:a.eval l=u at h;cases h with
 |fn _ _ _ fv cv h1 h2 S h4=>
 have k:hE G (first++args.toList.map (pn tm0)++cap) (fv++args.toList.map a.eval++cv):=by rw[<-d];exact(hE.append (G:=G) ⟨h1,S⟩ (hE.map m.eval args.toList)).append ⟨h2,h4⟩
 have s:(execOp a.eval o).run P w=(callFunc f (fv++args.toList.map a.eval++cv).toArray).run P w:=by
  have e:fv.toArray++args.map a.eval++cv.toArray=(fv++args.toList.map a.eval++cv).toArray:=by apply dZ;simp
  simp only[execOp,g,resolve,O,ij,ax,bd,ao,invoke,e]
 unfold wpOp;simp only[ho,IP m ((Ip p).trans hw)];left;unfold gB;rw[s];refine hc G _ w k M o a _ _ ?_;rintro D av b G' w' z b2 b3 ⟨rfl,rfl⟩;have hnx:=z.next;have B:=(Fr.less (σ:=σ) (σ':=st) q).trans z.bb;exact R G' (a.put o.dst D) w' b z.le (λj hj _ hg=>z.keeps j (by omega) hg) (by omega) B (m.put z.le b3 b2 hd) (λ_=>rfl) rfl
end
def Ig(acc:cu Nat)(o:Oper):Nat:=o.after.toList.foldl (λm e=>ite (cA .any e) (m ||| 2^e.on |||acc.getD e.on 0) m) 0
def oC:cu Oper->cu Nat->cu Nat
 | [],acc=>acc
 |o::os,acc=>oC os (acc++[Ig acc o])
def Pb(acc:cu Nat)(i:Nat):∀(es:cu Edge) (m:Nat),(es.foldl (λm e=>ite (cA .any e) (m ||| 2^e.on |||acc.getD e.on 0) m) m).testBit i=Y ->
  m.testBit i=Y\/∃e∈es,cA .any e=Y/\(i=e.on\/(acc.getD e.on 0).testBit i=Y)
 | [],m,h=>.inl h
 |e::es,m,h=>by
  simp only[iY]at h;rcases Pb acc i es _ h with h1|⟨c,a,h1⟩
  split at h1;rename_i b;rw[lI,lI,bx,bx]at h1;rcases h1 with(h1|h1)|h1
  exact .inl h1;refine .inr ⟨e,by simp,b,.inl ?_⟩;rw[Nat.testBit_two_pow]at h1;have:e.on=i:=by simpa using h1
  exact this.symm;exact .inr ⟨e,by simp,b,.inr h1⟩;exact .inl h1;exact .inr ⟨c,by simp[a],h1⟩
def OI:∀(os:cu Oper) (acc:cu Nat) (j:Nat),j<aa acc->(oC os acc).getD j 0=acc.getD j 0
 | [],acc,j,h=>rfl
 |o::os,acc,j,h=>by rw[oC,OI os _ j (by simp;omega)];simp[ dG,h]
def aA3:∀(os:cu Oper) (acc:cu Nat) (k:Nat) (o:Oper),os[k]?=Z o->∃a:cu Nat,(oC os acc).getD (aa acc+k) 0=Ig a o/\aa a=aa acc+k/\∀j,j<aa a->a.getD j 0=(oC os acc).getD j 0
 | [],acc,k,o,h=>by simp at h
 |o'::os,acc,0,o,h=>by simp at h;subst h;refine⟨acc,?_,by simp,λj hj=>by rw[oC,OI os _ j (by simp;omega)];simp[ dG,hj]⟩;rw[oC,eC,OI os _ _ (by simp)];simp
 |o'::os,acc,k+1,o,h=>by let ⟨a,h1,h2,b⟩:=aA3 os (acc++[Ig acc o']) k o (by simpa using h);refine⟨a,?_,by simp at h2;omega,b⟩;rw[oC];simp only[aL]at h1;rw[show aa acc+(k+1)=aa acc+(0+1)+k from by omega];exact h1
def yS(ops:Array Oper)(p:Nat->Bool):Prop:=∀(j:Nat) (o:Oper),ops[j]?=Z o->p j=Y->∀e∈o.after,cA .any e=Y->p e.on=Y
def yq(g:yS ops p):∀(j:Nat) (o:Oper),ops[j]?=Z o->(∀e∈o.after,cA .any e=Y->p e.on=Y)->∀i,((oC ops.toList []).getD j 0).testBit i=Y->p i=Y:=by
 intro j
 induction j using ir with
 |_ j l=>
  intro o ho b i k;let ⟨acc,h1,h2,m⟩:=aA3 ops.toList [] j o (by simpa using ho);simp only[cP,bj]at h1 h2;rw[h1]at k;rcases Pb acc i _ _ k with h|⟨e,he,a,h⟩
  simp at h;have c:=b e (by simpa using he) a;rcases h with rfl|h
  exact c;by_cases d:e.on<aa acc;rw[m _ d]at h;have n:=(aP.1 ho).1;have f:ops[e.on]?=Z (ops[e.on]'(by omega)):=bo _;exact l e.on (by omega) _ f (g e.on _ f c) i h;rw[show acc.getD e.on 0=0 from by simp[ bB (Nat.le_of_not_lt d)]]at h;simp at h
structure ri where
 rd:List Nat
 wr:List Nat
 call:Bool
 gA:Nat
 pW:Bool
def idle:Op->Bool
 | .move _| .assign _| .pick .. | .build .. | .nilCheck _| .binOp .. | .unOp .. | .convert .. | .makeFunc .. | .slice .. | .fieldAddr .. | .indexAddr .. | .index .. | .extract ..=>Y
 |_=>U
def aP2{T:bY}{id:Nat}(h:fb T b σ id op=Z (v,σ'))(a7:idle op=Y):σ'=σ/\oe b op=[]/\qq op=U:=by
 cases op with
 |pick _ _ _=>simp only[fb]at h;split at h;cases h;exact⟨rfl,rfl,rfl⟩;cases h
 |move x=>cases h;exact⟨rfl,rfl,rfl⟩
 |assign x=>cases h;exact⟨rfl,rfl,rfl⟩
 |makeFunc f a c=>cases h;exact⟨rfl,rfl,rfl⟩
 |nilCheck x =>simp only[fb]at h;split at h;cases h;exact⟨rfl,rfl,rfl⟩;cases h;exact⟨rfl,rfl,rfl⟩;cases h;exact⟨rfl,rfl,rfl⟩;cases h
 |build _ _=>simp only[fb]at h;split at h;cases h;exact⟨rfl,rfl,rfl⟩;cases h
 |binOp _ _ _ _ _=>simp only[fb]at h;split at h;cases h;exact⟨rfl,rfl,rfl⟩;cases h
 |unOp _ _ _=>simp only[fb]at h;split at h;cases h;exact⟨rfl,rfl,rfl⟩;cases h
 |convert _ _ _=>simp only[fb]at h;split at h;cases h;exact⟨rfl,rfl,rfl⟩;cases h
 |slice _ _ _ _ _=>simp only[fb]at h;split at h;cases h;exact⟨rfl,rfl,rfl⟩;cases h
 |fieldAddr _ _ _=>simp only[fb]at h;split at h;cases h;exact⟨rfl,rfl,rfl⟩;cases h
 |indexAddr _ _ _=>simp only[fb]at h;split at h;cases h;exact⟨rfl,rfl,rfl⟩;cases h
 |index _ _ _=>simp only[fb]at h;split at h;cases h;exact⟨rfl,rfl,rfl⟩;cases h
 |extract _ _=>simp only[fb]at h;split at h;cases h;exact⟨rfl,rfl,rfl⟩;cases h
 |_=>simp[idle]at a7
def sO(σ1:bg):cu Nat->bg->bg
 | [],σ=>σ
 |i::is,σ=>sO σ1 is (match σ1.bF i with|some o=>σ.set i o|none=>σ.del i)
def Fo(σ1:bg):∀(is:cu Nat) (σ:bg) (k:Nat),(sO σ1 is σ).bF k=if k∈is then σ1.bF k else σ.bF k
 | [],σ,k=>by simp[sO]
 |i::is,σ,k=>by
  rw[sO,Fo σ1 is];by_cases e:k∈is;simp[e];rw[cc e];by_cases a:k=i;subst a;cases h:σ1.bF k with
  |none=>simp[bg.rK]
  |some o=>simp[bg.x9]
  rw[cc (by simp[e,a])];cases h:σ1.bF i with
  |none=>simp[bg.rK,a]
  |some o=>simp[bg.x9,a]
def FE(σ1:bg):∀(is:cu Nat) (σ:bg),(sO σ1 is σ).next=σ.next
 | [],σ=>rfl
 |i::is,σ=>by rw[sO,FE σ1 is];cases σ1.bF i<;>rfl
def q0(n0 N mask:Nat):cu Nat:=(aT N).filterMap λj=>ite (mask.testBit j) W <|some (n0+j)
def saved(σ:bg)(ids:cu Nat):cu (Nat×c7):=ids.filterMap λid=>(σ.bF id).map λo=>(id,o)
def sr:cu (Nat×c7)->bg->bg
 | [],σ=>σ
 |p::ps,σ=>sr ps (σ.del p.1)
def uE:cu (Nat×c7)->bg->bg
 | [],σ=>σ
 |p::ps,σ=>uE ps (σ.set p.1 p.2)
def Wi:∀(l:cu (Nat×c7)) (σ:bg) (k:Nat),(sr l σ).bF k=if k∈l.map (·.1)then W else σ.bF k
 | [],σ,k=>by simp[sr]
 |p::ps,σ,k=>by rw[sr,Wi ps,bg.rK];by_cases e:k∈ps.map (·.1);simp[e];by_cases a:k=p.1;simp[a];rw[cc e,cc a,cc (by simp only[aD,aG,not_or];exact⟨a,e⟩)]
def Ng:∀(l:cu (Nat×c7)) (σ:bg),(sr l σ).next=σ.next
 | [],σ=>rfl
 |p::ps,σ=>by rw[sr,Ng ps];rfl
def Nk:∀(l:cu (Nat×c7)) (σ:bg),(uE l σ).next=σ.next
 | [],σ=>rfl
 |p::ps,σ=>by rw[uE,Nk ps];rfl
def Wh(g:Nat->dv c7):∀(l:cu (Nat×c7)) (σ:bg) (k:Nat),(∀p∈l,g p.1=Z p.2)->(uE l σ).bF k=if k∈l.map (·.1)then g k else σ.bF k
 | [],σ,k,_=>by simp[uE]
 |p::ps,σ,k,h=>by rw[uE,Wh g ps _ k (λq b=>h q (by simp[b])),bg.x9];by_cases e:k∈ps.map (·.1);simp[e];by_cases a:k=p.1;subst a;rw[cc e,cr rfl,cr (by simp),h p (by simp)];rw[cc e,cc a,cc (by simp only[aD,aG,not_or];exact⟨a,e⟩)]
def bV0(σ:bg)(ids:cu Nat):(∀p∈saved σ ids,σ.bF p.1=Z p.2)/\∀k,k∈(saved σ ids).map (·.1)↔k∈ids/\(σ.bF k).isSome=Y:=by
 refine⟨λp hp=>?_,λk=>?_⟩;let ⟨id,_,h⟩:=dh.1 hp;cases ho:σ.bF id with
 |none=>simp[ho]at h
 |some o=>simp[ho]at h;subst h;exact ho
 constructor;intro h;obtain⟨p,hp,rfl⟩:=aN.1 h;let ⟨id,hid,h⟩:=dh.1 hp;cases ho:σ.bF id with
 |none=>simp[ho]at h
 |some o=>simp[ho]at h;subst h;exact⟨hid,by simp[ho]⟩
 rintro ⟨h1,h2⟩;cases ho:σ.bF k with
 |none=>simp[ho]at h2
 |some o=>exact aN.2 ⟨(k,o),dh.2 ⟨k,h1,by simp[ho]⟩,rfl⟩
def v_(T:bY)(cl:FuncId->eX->bg->dv (bX×bg))(ops:Array Oper)(n0 N mask i:Nat)(pW:Bool)(s:bl)(o:Oper):dv (bl×ri) :=
 match pv ops s o,oz s.n o.dst with
 |some U,Y=>Z (s.put o.dst (.b4 undef),⟨[],[],U,0,U⟩)
 |some Y,Y=>
  match o.op with
  | .call { callee:=.value a,args:=args,argTypes:=_ }=>
   match s.eval a with
   | .fn (.func f) first cap=>
    ite pW (match cl f (first++args.toList.map s.eval++cap) s.st with
     |some (v,σ1)=>ite (s.st.next<=σ1.next) (Z ({ s with st:=σ1 }.put o.dst v,⟨[],[],U,0,Y⟩)) <|none
     |none=>W) <|match cl f (first++args.toList.map s.eval++cap) { sr (saved s.st (q0 n0 N mask)) s.st with low:=s.st.next }with
    |some (v,σ1)=>ite (s.st.next<=σ1.low/\s.st.next<=σ1.next) (Z ({ s with st:={ uE (saved s.st (q0 n0 N mask)) σ1 with low:=min s.st.low s.st.next } }.put o.dst v,⟨[],[],Y,s.st.next,U⟩)) <|none
    |none=>W
   |_=>W
  |op=>
   match fb T s.eval (small s.st (oe s.eval op)) (n0+i) op with
   |some (v,σ1)=>
    Z ({ s with st:=(match σ1.bF (n0+i)with
     |some x=>(ite (qq op) (sO σ1 (oe s.eval op) s.st) s.st).set (n0+i) x
     |none=>(ite (qq op) (sO σ1 (oe s.eval op) s.st) s.st)) }.put o.dst v,⟨oe s.eval op,ite (qq op) (oe s.eval op) [],U,0,U⟩)
   |none=>W
 |_,_=>W
def Ei(ops:Array Oper)(a:cu Nat)(i:Nat):Bool :=(aT ops.size).all λj=>j==i||(match ops[j]? with|some o=>idle o.op|none=>Y)||(a.getD i 0).testBit j||(a.getD j 0).testBit i
def Af:Op->Bool
 | .call { callee:=.value _,.. }=>Y
 |_=>U
def zp(T:bY)(cl:FuncId->eX->bg->dv (bX×bg))(ops:Array Oper)(n0 N:Nat)(a:cu Nat):cu Oper->Nat->bl->dv (bl×cu ri)
 | [],_,s=>Z (s,[])
 |o::rest,i,s=>match v_ T cl ops n0 N (a.getD i 0) i (Af o.op&&Ei ops a i) s o with
  |some (s1,f)=>match zp T cl ops n0 N a rest (i+1) s1 with
   |some (s2,fs)=>Z (s2,f::fs)
   |none=>W
  |none=>W
def z_(n0 i j:Nat)(a b:ri):Bool :=
 (a.wr.all λx=>!(b.rd++b.wr).contains x)&&(b.wr.all λx=>!a.rd.contains x)&&!(b.rd++b.wr).contains (n0+i)&&!(a.rd++a.wr).contains (n0+j)&&!(a.call&&b.call)&&!a.pW&&!b.pW &&
 (!a.call||(b.wr.isEmpty&&b.rd.all λx=>No (x<a.gA)))&&(!b.call||(a.wr.isEmpty&&a.rd.all λx=>No (x<b.gA)))
def BJ(ops:Array Oper)(c:cu Nat):cu (Nat×Nat) :=
 (aT ops.size).flatMap λj=>(aT j).filterMap λi=>
  ite ((c.getD j 0).testBit i) W <|match ops[i]?,ops[j]? with
  |some a,Z b=>ite (idle a.op||idle b.op) W <|some (i,j)
  |_,_=>W
def Gu(ops:Array Oper)(c:cu Nat):Bool :=
 (aT ops.size).all λj=>(match ops[j]? with|some o=>o.after.all (λe=>!Region.binds .any e||No (e.on<j))|none=>Y) &&
  (aT j).all λi=>(c.getD j 0).testBit i||(match ops[i]?,ops[j]? with|some a,Z b=>a.apart ops b|_,_=>Y)
def BQ(T:bY)(cl:FuncId->eX->bg->dv (bX×bg))(ops:Array Oper)(s:bl):dv bl :=
 ite (Gu ops (oC ops.toList [])) (match zp T cl ops s.st.next ops.size (oC ops.toList []) ops.toList 0 { s with st:={ s.st with next:=s.st.next+ops.size } }with
  |some (s',fs)=>ite ((BJ ops (oC ops.toList [])).all (λp=>z_ s.st.next p.1 p.2 (fs.getD p.1 ⟨[],[],U,0,U⟩) (fs.getD p.2 ⟨[],[],U,0,U⟩))) (Z s') <|none
  |none=>W) W
def Hj(ops:Array Oper)(n0 N mask:Nat)(o:Oper)(f:ri)(s:bl)(mx:Nat->bX)(σ:bg):Prop :=
 (∀t∈o.looksAt ops,mx t=s.get t)/\(∀id∈f.rd,σ.bF id=s.st.bF id)/\(f.call=Y->σ.next=s.st.next/\∀id,id∉q0 n0 N mask->σ.bF id=s.st.bF id) /\
  (f.pW=Y->σ.next=s.st.next/\∀id,σ.bF id=s.st.bF id)
structure Ew(n0 N i:Nat)(o:Oper)(f:ri)(ev:AN):Prop where
 tmp:∀t,ev.uU t≠W->o.dst=Z t
 obj:∀id,ev.tC id≠W->id∈f.wr\/id=n0+i\/(f.call=Y/\f.gA<=id)\/f.pW=Y
 num:f.call=U->f.pW=U->ev.uf=W
 start:f.call=Y->n0+N<=f.gA
 idle:idle o.op=Y->(∀id,ev.tC id=W)/\f.call=U/\f.rd=[]/\f.pW=U
def Kf(s:bl)(σ:bg)(d:dv Tmp)(v:bX)(t:Nat):({ s with st:=σ }.put d v).get t=(tZ d v t).getD (s.get t):=by cases d;rfl;rename_i d;rw[bl.I2];simp only[tZ];by_cases e:t=d;simp[e];rw[cc e,cc (by simp;exact λh=>e h.symm)];rfl
def xI.K9{c d:(Nat->bX)->bg->Prop}{ev:AN}(h:xI P ops n n0 N i c ev)(hc:∀mx σ,d mx σ->c mx σ):xI P ops n n0 N i d ev :=λG a w mx σ e b=>h G a w mx σ e (hc mx σ b)
def am2{id:Nat}:id∈q0 n0 N mask↔∃j,j<N/\mask.testBit j=U/\id=n0+j:=by unfold q0;rw[dh];constructor;rintro ⟨j,hj,h⟩;split at h;cases h;rename_i a;cases h;exact⟨j,by simpa using hj,by simpa using a,rfl⟩;rintro ⟨j,hj,a,rfl⟩;exact⟨j,by simpa using hj,by simp[a]⟩
section
variable {P:Program} {T:bY} (cb:rk P T) {cl:FuncId->eX->bg->dv (bX×bg)}
 (hcl:∀f args σ v σ',cl f args σ=Z (v,σ')->oO P f args σ (λv' σ''=>v'=v/\σ''=σ')/\qb σ σ')
 {ops:Array Oper} {n0 N:Nat}
include cb hcl
theorem aK5{pW:Bool}{s1:bl}{f:ri}(ho:ops[i]?=Z o)(a7:i<N)(O:n0+N<=s.st.next)(h:v_ T cl ops n0 N mask i pW s o=Z (s1,f)) :
  ∃ev,Ew n0 N i o f ev/\(∀t,s1.get t=(ev.uU t).getD (s.get t))/\(∀id,s1.st.bF id=(ev.tC id).getD (s.st.bF id))/\s1.st.next=ev.uf.getD s.st.next/\s1.n=s.n/\s.st.next<=s1.st.next /\
   xI P ops s.n n0 N i (Hj ops n0 N mask o f s) ev:=by
 unfold v_ at h;split at h;rename_i hw hd;cases h;refine⟨⟨tZ o.dst (.b4 undef),λ_=>W,W⟩,⟨λt b=>?_,λid hid=>b8 rfl hid,λ_ _=>rfl,(λh=>by cases h),λ_=>⟨λ_=>rfl,rfl,rfl,rfl⟩⟩,λt=>?_,λid=>by simp,by simp,by simp,by simp,?_⟩;simp only[tZ]at b;split at b;assumption;exact b8 rfl b;have:=Kf s s.st o.dst (.b4 undef) t;exact this;exact(bH2 ho hw hd).K9 λmx σ hc=>hc.1;rename_i hw hd;split at h;rename_i fo args ts k;split at h;rename_i fi first cap w
 split at h;split at h;rename_i v σ1 hc;split at h;rename_i B;cases h;let ⟨a,z⟩:=hcl _ _ _ _ _ hc;have c:args.toList.map s.eval=args.toList.map (pn s.get):=cw λx _=>bl.eval_eq s x;refine⟨⟨tZ o.dst v,λid=>Z (σ1.bF id),Z σ1.next⟩,⟨λt b=>?_,λid hid=>.inr (.inr (.inr rfl)),(λ_ h=>by cases h),(λh=>by cases h),(λh=>by rw[k]at h;simp[Go.Ab.idle]at h)⟩,λt=>Kf s _ o.dst v t,λid=>by simp,by simp,by simp,by simpa using B,?_⟩;simp only[tZ]at b;split at b;assumption;exact b8 rfl b;refine(bR3 (n0:=n0) (N:=N) ho k hw hd (by rw[<-bl.eval_eq];exact w) s.st v σ1 (by rw[<-c];exact a)).K9 ?_;rintro mx σ ⟨c1,c2,J,C⟩;exact⟨c1,C rfl⟩;cases h;cases h;split at h;rename_i v σ1 hc;split at h;rename_i p;cases h;let ⟨a,z⟩:=hcl _ _ _ _ _ hc;let ⟨D,l⟩:=bV0 s.st (q0 n0 N mask);have d:∀id,({ sr (saved s.st (q0 n0 N mask)) s.st with low:=s.st.next }:bg).bF id=if(q0 n0 N mask).contains id then W else s.st.bF id:=λid=>by
  show(sr (saved s.st (q0 n0 N mask)) s.st).bF id=_;rw[Wi];by_cases e:id∈q0 n0 N mask;have:(q0 n0 N mask).contains id=Y:=by simpa using e
  rw[this];simp only[vE];cases r:s.st.bF id with
  |none=>simp
  |some x=>rw[cr ((l id).2 ⟨e,by simp[r]⟩)]
  have:(q0 n0 N mask).contains id=U:=by simpa using e
  rw[this];rw[cc (λE=>e ((l id).1 E).1)];simp
 have q:∀id,id<s.st.next->σ1.bF id=({ sr (saved s.st (q0 n0 N mask)) s.st with low:=s.st.next }:bg).bF id:=λid hid=>z.2 id (by omega);have hex:∀id,id∈q0 n0 N mask->id<s.st.next:=λid hid=>by obtain⟨j,hj,_,rfl⟩:=am2.1 hid;omega
 refine⟨⟨tZ o.dst v,λid=>ite (id<s.st.next) W <|some (σ1.bF id),Z σ1.next⟩,⟨λt b=>?_,λid hid=>?_,(λh _=>by cases h),λ_=>O,(λh=>by rw[k]at h;simp[Go.Ab.idle]at h)⟩,λt=>Kf s _ o.dst v t,λid=>?_,?_,by simp,?_,?_⟩;simp only[tZ]at b;split at b;assumption;exact b8 rfl b;refine .inr (.inr (.inl ⟨rfl,?_⟩));simp only at hid;split at hid;exact b8 rfl hid;show s.st.next<=id;omega;simp only[bl.Ch];show(uE (saved s.st (q0 n0 N mask)) σ1).bF id=_;rw[Wh s.st.bF _ _ _ D];by_cases e:id<s.st.next;split;rfl;rename_i G;rw[q id e,d id];split;rename_i H;cases r:s.st.bF id with
 |none=>rfl
 |some x=>exact b8 ((l id).2 ⟨by simpa using H,by simp[r]⟩) G
 rfl;rw[cc e,cc (λE=>e (hex id ((l id).1 E).1))];rfl;simp only[bl.Ch];show(uE (saved s.st (q0 n0 N mask)) σ1).next=_;rw[Nk];rfl;simp only[bl.Ch];show s.st.next<=(uE (saved s.st (q0 n0 N mask)) σ1).next;rw[Nk];exact p.2;have c:args.toList.map s.eval=args.toList.map (pn s.get):=cw λx _=>bl.eval_eq s x;refine(bI9 (n0:=n0) (N:=N) ho k hw hd (by rw[<-bl.eval_eq];exact w) s.st { sr (saved s.st (q0 n0 N mask)) s.st with low:=s.st.next } v σ1 ((q0 n0 N mask).contains ·) (Ng _ _) d q (by rw[<-c];exact a)).K9 ?_;rintro mx σ ⟨c1,c2,J,_⟩;let ⟨C,Q⟩:=J rfl;exact⟨c1,C,λid hid=>Q id (by simpa using hid)⟩;cases h;cases h;cases h;rename_i R;split at h;rename_i v σ1 ha;cases h;have g:=funext (bl.eval_eq s);rw[g]at ha;have p:=J9 ha;refine⟨_,⟨λt b=>?_,λid hid=>?_,λ_ _=>rfl,(λh=>by cases h),λu=>?_⟩,λt=>Kf s _ o.dst v t,λid=>?_,?_,by simp,?_,(bq4 cb ho a7 hw hd s.st v σ1 ha).K9 ?_⟩;simp only[tZ]at b;split at b;assumption;exact b8 rfl b;simp only at hid;rw[g];split at hid;rename_i hc;left;rw[cr hc.1];exact hc.2;split at hid;rename_i e;exact .inr (.inl e);exact b8 rfl hid;let ⟨S,K,e3⟩:=aP2 ha u;refine⟨λid=>?_,rfl,by rw[g];exact K,rfl⟩;simp only[e3,aF,false_and,l4];split;rw[S,I0,K];simp;rfl;simp only[bl.Ch];rw[g];by_cases M:qq o.op=Y;simp only[M,vE,qj];by_cases hm:id∈oe (pn s.get) o.op;rw[cr hm];split;rename_i x m;rw[bg.x9];split;rename_i e;rw[e];simp[m];rw[Fo,cr hm];rfl;rw[Fo,cr hm];rfl;rw[cc hm];split;rename_i x m;rw[bg.x9];split;rename_i e;rw[e];simp[m];rw[Fo,cc hm];rfl;rename_i m;rw[Fo,cc hm];split;rename_i e;rw[e];simp[m];rfl;have I:qq o.op=U:=by simpa using M
 simp only[I,aF,l4,false_and];split;rename_i x m;rw[bg.x9];split;rename_i e;rw[e];simp[m];rfl;rename_i m;split;rename_i e;rw[e];simp[m];rfl;simp only[bl.Ch,kz];split;simp only[bg.PX];split;rw[FE];rfl;split;rw[FE];rfl;simp only[bl.Ch];split;simp only[bg.PX];split;rw[FE];exact ay _;exact ay _;split;rw[FE];exact ay _;exact ay _;rintro mx σ ⟨c1,c2,_⟩;exact⟨c1,λid hid=>c2 id (by rw[g];exact hid)⟩;cases h;cases h
theorem P6{a:cu Nat}:∀(l:cu Oper) (i:Nat) (s s':bl) (fs:cu ri),(∀j:Nat,l[j]?=ops[i+j]?)->i+aa l<=N->n0+N<=s.st.next->zp T cl ops n0 N a l i s=Z (s',fs) ->
  ∃(evs:cu AN) (sts:cu bl),aa evs=aa l/\aa fs=aa l/\aa sts=aa l/\s'.n=s.n /\
   (∀(j:Nat) o f ev st,l[j]?=Z o->fs[j]?=Z f->evs[j]?=Z ev->sts[j]?=Z st->Ew n0 N (i+j) o f ev/\xI P ops s.n n0 N (i+j) (Hj ops n0 N (a.getD (i+j) 0) o f st) ev/\(f.call=Y->f.gA=st.st.next) /\
    (∀t,st.get t=fold (λk=>No (k<i+j)) (evs.map (·.uU)) i s.get t)/\(∀id,st.st.bF id=fold (λk=>No (k<i+j)) (evs.map (·.tC)) i s.st.bF id) /\
    (st.st.next=fold (λk=>No (k<i+j)) (evs.map λe=>λ_:Unit=>e.uf) i (λ_=>s.st.next) ())) /\
   (∀t,s'.get t=fold (λ_=>Y) (evs.map (·.uU)) i s.get t)/\(∀id,s'.st.bF id=fold (λ_=>Y) (evs.map (·.tC)) i s.st.bF id) /\
   (s'.st.next=fold (λ_=>Y) (evs.map λe=>λ_:Unit=>e.uf) i (λ_=>s.st.next) ())
 | [],i,s,s',fs,_,_,_,h=>by obtain⟨rfl,rfl⟩:=h;exact⟨[],[],rfl,rfl,rfl,rfl,λj o f ev st hj=>by simp at hj,λ_=>rfl,λ_=>rfl,rfl⟩
 |o::rest,i,s,s',fs,hl,z,B,h=>by
  have ho:ops[i]?=Z o:=by have:=hl 0;simpa using this.symm
  have c:∀j:Nat,rest[j]?=ops[i+1+j]?:=λj=>by have:=hl (j+1);simpa[fK,jD 1 j]using this
  simp only[aA]at z;unfold zp at h;split at h
  next s1 f hs=>
   split at h
   next s2 d C=>
    cases h;let ⟨ev,D,E,G,H,x,M,I⟩:=aK5 cb hcl ho (by omega) B hs;let ⟨evs,sts,l2,x8,pG,J,b,g1,g2,g3⟩:=P6 rest (i+1) s1 s' d c (by omega) (by omega) C;have g:∀k,i<=k->No (k<i+0)=U:=λk hk=>by simp;omega
    have f1:∀(p:Nat->Bool),p i=Y->∀t,fold p ((ev::evs).map (·.uU)) i s.get t=fold p (evs.map (·.uU)) (i+1) s1.get t:=λp hp t=>by simp only[aD,fold,hp,b6];rw[show(λl=>(ev.uU l).getD (s.get l))=s1.get from funext λt=>(E t).symm]
    have f2:∀(p:Nat->Bool),p i=Y->∀id,fold p ((ev::evs).map (·.tC)) i s.st.bF id=fold p (evs.map (·.tC)) (i+1) s1.st.bF id:=λp hp id=>by simp only[aD,fold,hp,b6];rw[show(λl=>(ev.tC l).getD (s.st.bF l))=s1.st.bF from funext λt=>(G t).symm]
    have f3:∀(p:Nat->Bool),p i=Y->fold p ((ev::evs).map λe=>λ_:Unit=>e.uf) i (λ_=>s.st.next) ()=fold p (evs.map λe=>λ_:Unit=>e.uf) (i+1) (λ_=>s1.st.next) ():=λp hp=>by simp only[aD,fold,hp,b6];rw[show(λ_:Unit=>ev.uf.getD s.st.next)=(λ_=>s1.st.next)from funext λ_=>H.symm]
    refine⟨ev::evs,s::sts,by simp[l2],by simp[x8],by simp[pG],by rw[J,x],λj o' K m q h1 h2 r w=>?_,λt=>by rw[f1 _ rfl];exact g1 t,λid=>by rw[f2 _ rfl];exact g2 id,by rw[f3 _ rfl];exact g3⟩;cases j with
    |zero=>
     simp only[ch,ah]at h1 h2 r w;subst h1 h2 r w;refine⟨D,I,λhc=>?_,λt=>(Bz t _ i _ _ (λj u _ hp=>by have:=pK hp;omega) rfl).symm,λid=>(Bz id _ i _ _ (λj u _ hp=>by have:=pK hp;omega) rfl).symm,(Bz (p:=λk=>No (k<i+0)) () _ i (λ_=>s.st.next) s.st.next (λj u _ hp=>by have:=pK hp;omega) rfl).symm⟩
     
     unfold v_ at hs;split at hs
     .cases hs;cases hc
     .split at hs
      .split at hs
       .split at hs
        .split at hs
         .split at hs
          .cases hs;cases hc
          cases hs
         cases hs
        split at hs
        .split at hs
         .cases hs;rfl
         cases hs
        cases hs
       cases hs
      split at hs
      .cases hs;cases hc
      cases hs
     cases hs
    |succ j=>
     let ⟨fa,gb,kc,yF,oL,mn⟩:=b j o' K m q h1 h2 r w
     have hp:No (i<i+(j+1))=Y:=by simp
     rw[show i+1+j=i+(j+1)from by omega]at fa gb yF oL mn;rw[x]at gb;exact⟨fa,gb,kc,λt=>by rw[f1 _ hp];exact yF t,λid=>by rw[f2 _ hp];exact oL id,by rw[f3 _ hp];exact mn⟩
   cases h
  cases h
end
def aT8{c:cu Nat}{fs:cu ri}(qJ:Gu ops c=Y)(wV:(BJ ops c).all (λp=>z_ n0 p.1 p.2 (fs.getD p.1 ⟨[],[],U,0,U⟩) (fs.getD p.2 ⟨[],[],U,0,U⟩))=Y)
   {a b:Oper} (d:i<j) (ha:ops[i]?=Z a) (h:ops[j]?=Z b) (hm:(c.getD j 0).testBit i=U) :
  a.apart ops b=Y/\(idle a.op=Y\/idle b.op=Y\/z_ n0 i j (fs.getD i ⟨[],[],U,0,U⟩) (fs.getD j ⟨[],[],U,0,U⟩)=Y):=by
 have hj:=(aP.1 h).1;have h1:=aj.1 qJ j (by simpa using hj);rw[ab]at h1;have h2:=aj.1 h1.2 i (by simpa using d);rw[hm,cR,ha,h]at h2;refine⟨h2,?_⟩;by_cases e:idle a.op=Y;exact .inl e;by_cases f:idle b.op=Y;exact .inr (.inl f);right;right;have g:(i,j)∈BJ ops c:=by unfold BJ;rw[List.mem_flatMap];refine⟨j,by simpa using hj,dh.2 ⟨i,by simpa using d,?_⟩⟩;rw[hm,ha,h];simp[e,f]
 exact aj.1 wV (i,j) g
structure Li(n0 i j:Nat)(a b:ri):Prop where
 ww:∀x∈a.wr,x∉b.rd/\x∉b.wr
 wr:∀x∈b.wr,x∉a.rd
 W9:n0+i∉b.rd/\n0+i∉b.wr
 W_:n0+j∉a.rd/\n0+j∉a.wr
 tR:¬(a.call=Y/\b.call=Y)
 rI:a.pW=U/\b.pW=U
 My:a.call=Y->b.wr=[]/\∀x∈b.rd,x<a.gA
 Mz:b.call=Y->a.wr=[]/\∀x∈a.rd,x<b.gA
def bK4{a b:ri}(h:z_ n0 i j a b=Y):Li n0 i j a b:=by unfold z_ at h;simp only[ab]at h;obtain⟨⟨⟨⟨⟨⟨⟨⟨h1,h2⟩,k⟩,l⟩,m⟩,f⟩,g⟩,d⟩,e⟩:=h;refine⟨λx c=>?_,λx c=>?_,?_,?_,?_,⟨by simpa using f,by simpa using g⟩,λhc=>?_,λhc=>?_⟩;have:=aj.1 h1 x c;simpa using this;have:=aj.1 h2 x c;simpa using this;simpa using k;simpa using l;rintro ⟨n,o⟩;simp[n,o]at m;rw[hc]at d;simp only[ar,cR,ab]at d;exact⟨by simpa using d.1,λx c=>by simpa using aj.1 d.2 x c⟩;rw[hc]at e;simp only[ar,cR,ab]at e;exact⟨by simpa using e.1,λx c=>by simpa using aj.1 e.2 x c⟩
def left(N:Nat)(p:Nat->Bool):Nat:=aa ((aT N).filter λi=>!p i)
def O3(a7:i<N)(hp:p i=U):left N (λj=>j==i||p j)+1=left N p:=by
 have key:∀l:cu Nat,l.Nodup->i∈l->aa (l.filter λj=>!(j==i||p j))+1=aa (l.filter λj=>!p j):=by
  intro l
  induction l with
  |nil=>intro _ h;cases h
  |cons a l f=>
   intro b d;rw[List.nodup_cons]at b;by_cases e:a=i;subst e;have c:(l.filter λj=>!(j==a||p j))=l.filter λj=>!p j:=by
    apply List.filter_congr;intro j hj;have:(j==a)=U:=by simp;exact λh=>b.1 (h▸hj)
    simp[this]
   rw[fz,fz,c,hp];simp;have hm:i∈l:=by
    rcases aG.1 d with h|h
    exact b8 h.symm e;exact h
   have:=f b.2 hm;have g:(a==i)=U:=by simpa using e
   rw[fz,fz,g,cR];cases k:p a;simp only[aQ,vE,aA];omega;exact this
 exact key _ List.nodup_range (by simpa using a7)
def NV(h:left N p=0):∀i,i<N->p i=Y:=by intro i a7;have:=List.length_eq_zero_iff.1 h;rw[List.filter_eq_nil_iff]at this;have:=this i (by simpa using a7);simpa using this
section
variable {P:Program} {T:bY} {ops:Array Oper} {n n0:Nat} {fs:cu ri} {evs:cu AN} {sts:cu bl} {s0 s':bl}
def N7{l:cu α}(h:aa l=n)(hj:j<n):∃x,l[j]?=Z x:=⟨l[j]'(by omega),af _⟩
structure Lex(P:Program)(ops:Array Oper)(n n0:Nat)(fs:List ri)(evs:List AN)(sts:List bl)(s0:bl):Prop where
 qJ:Gu ops (oC ops.toList [])=Y
 wV:(BJ ops (oC ops.toList [])).all (λp=>z_ n0 p.1 p.2 (fs.getD p.1 ⟨[],[],U,0,U⟩) (fs.getD p.2 ⟨[],[],U,0,U⟩))=Y
 l2:aa evs=ops.size
 x8:aa fs=ops.size
 pG:aa sts=ops.size
 all:∀(j:Nat) o f ev st,ops[j]?=Z o->fs[j]?=Z f->evs[j]?=Z ev->sts[j]?=Z st->Ew n0 ops.size j o f ev/\xI P ops n n0 ops.size j (Hj ops n0 ops.size ((oC ops.toList []).getD j 0) o f st) ev/\(f.call=Y->f.gA=st.st.next) /\
    (∀t,st.get t=fold (λk=>No (k<j)) (evs.map (·.uU)) 0 s0.get t)/\(∀id,st.st.bF id=fold (λk=>No (k<j)) (evs.map (·.tC)) 0 s0.st.bF id) /\
    (st.st.next=fold (λk=>No (k<j)) (evs.map λe=>λ_:Unit=>e.uf) 0 (λ_=>s0.st.next) ())
structure Way(ops:Array Oper)(n n0:Nat)(evs:List AN)(s0:bl)(G0:ca)(σ0:bg)(qs:World)(p:Nat->Bool)(G:ca)(mx:Nat->bX)(σ:bg)(a:Act)(w:World):Prop where
 rel:yh G n mx σ a w
 mx:∀t,mx t=fold p (evs.map (·.uU)) 0 s0.get t
 tu:∀id,σ.bF id=fold p (evs.map (·.tC)) 0 s0.st.bF id
 gA:σ.next=fold p (evs.map λe=>λ_:Unit=>e.uf) 0 (λ_=>s0.st.next) ()
 free:∀j,j<ops.size->p j=U->G.pl (n0+j)=W
 closed:yS ops p
 U9:n0+ops.size<=σ.next
 uS:tb n0 G0 σ0 qs G σ w
def Lex.FF(h:Lex P ops n n0 fs evs sts s0)(ho:ops[j]?=Z o){e:Edge}(he:e∈o.after)(a:cA .any e=Y):e.on<j:=by have hj:=(aP.1 ho).1;have h1:=aj.1 h.qJ j (by simpa using hj);rw[ab,ho]at h1;have:=Array.all_eq_true_iff_forall_mem.1 h1.1 e he;simpa[a]using this
def Lex.bn5(h:Lex P ops n n0 fs evs sts s0)(ho:ops[j]?=Z o)(c:((oC ops.toList []).getD j 0).testBit i=Y):i<j:=by
 have b:yS ops (λk=>No (k<j)):=λk o' hk hp e he a=>by have:=h.FF hk he a;have:=pK hp;simp;omega
 have:=yq b j o ho (λe he a=>by simpa using h.FF ho he a) i c;simpa using this
def Lex.apart(h:Lex P ops n n0 fs evs sts s0){a b:Oper}{c d:ri}(e:i<j)(ha:ops[i]?=Z a)(f:ops[j]?=Z b)(h1:fs[i]?=Z c)(h2:fs[j]?=Z d)(hm:((oC ops.toList []).getD j 0).testBit i=U) :
  a.apart ops b=Y/\(idle a.op=Y\/idle b.op=Y\/Li n0 i j c d):=by
 let ⟨g1,g2⟩:=aT8 h.qJ h.wV e ha f hm;refine⟨g1,?_⟩;rcases g2 with g|g|g
 exact .inl g;exact .inr (.inl g);right;right;have k:fs.getD i ⟨[],[],U,0,U⟩=c:=by simp[ h1]
 have l:fs.getD j ⟨[],[],U,0,U⟩=d:=by simp[ h2]
 rw[k,l]at g;exact bK4 g
def Lex.at(h:Lex P ops n n0 fs evs sts s0)(hj:j<ops.size):∃o f ev st,ops[j]?=Z o/\fs[j]?=Z f/\evs[j]?=Z ev/\sts[j]?=Z st:=by let ⟨f,hf⟩:=N7 h.x8 hj;let ⟨ev,a⟩:=N7 h.l2 hj;let ⟨st,qJ⟩:=N7 h.pG hj;exact⟨ops[j],f,ev,st,bo hj,hf,a,qJ⟩
def Lex.unordered(h:Lex P ops n n0 fs evs sts s0)(d:yS ops p){k:Nat}(ho:ops[i]?=Z o)(f:p i=U)(b:∀e∈o.after,cA .any e=Y->p e.on=Y)
  {ok:Oper} (g:ops[k]?=Z ok) (a:p k≠No (k<i)):(k<i/\((oC ops.toList []).getD i 0).testBit k=U)\/(i<k/\((oC ops.toList []).getD k 0).testBit i=U/\p k=Y):=by
 rcases Nat.lt_trichotomy k i with j|heq|l
 left;refine⟨j,?_⟩;have c:p k=U:=by
  have:No (k<i)=Y:=by simpa using j
  rw[this]at a;simpa using a
 cases m:((oC ops.toList []).getD i 0).testBit k with
 |false=>rfl
 |true=>have:=yq d i o ho b k m;rw[c]at this;cases this
 subst heq;rw[f]at a;simp at a;right;have c:p k=Y:=by
  have:No (k<i)=U:=by simp;omega
  rw[this]at a;simpa using a
 refine⟨l,?_,c⟩;cases m:((oC ops.toList []).getD k 0).testBit i with
 |false=>rfl
 |true=>have:=yq d k ok g (d k ok g c) i m;rw[f]at this;cases this
def sY{β:Type}{l:cu α}{f:α->β}{u:β}(h:(l.map f)[j]?=Z u):∃x,l[j]?=Z x/\f x=u:=by
 rw[aS]at h;cases hl:l[j]? with
 |none=>simp[hl]at h
 |some x=>rw[hl]at h;exact⟨x,rfl,by simpa using h⟩
theorem Way.step(h:Lex P ops n n0 fs evs sts s0){w:World}(hw:Way ops n n0 evs s0 G0 σ0 qs p G mx σ a w)
   (a7:i<ops.size) (C:p i=U) (z:∀o,ops[i]?=Z o->∀e∈o.after,cA .any e=Y->p e.on=Y) (K:Act->World->Prop) (Q:Exit->Act->World->Prop)
  (hK:∀G' tm' σ' a' w',Way ops n n0 evs s0 G0 σ0 qs (λj=>j==i||p j) G' tm' σ' a' w'->K a' w'):wpOp P ops Q i K a w:=by
 let ⟨o,f,ev,st,ho,hf,I,qJ⟩:=h.at a7;let ⟨B,e2,e3,e4,e5,e6⟩:=h.all i o f ev st ho hf I qJ;have hrd:=z o ho;have diff:∀k m,evs[k]?=Z m->p k≠No (k<i)->∃ok l,ops[k]?=Z ok/\fs[k]?=Z l/\Ew n0 ops.size k ok l m/\(∀d,ok.dst=Z d->d∉o.looksAt ops)/\(((oC ops.toList []).getD i 0).testBit k=U) /\
   (idle ok.op=Y\/idle o.op=Y\/((∀x∈l.wr,x∉f.rd)/\n0+k∉f.rd/\¬(l.call=Y/\f.call=Y)/\(l.call=Y->∀x∈f.rd,x<l.gA)/\(f.call=Y->l.wr=[])/\l.pW=U/\f.pW=U)):=by
  intro k m c b;have hk:k<ops.size:=by have:=(aq.1 c).1;rw[h.l2]at this;exact this
  let ⟨ok,l,ek',N,g1,g2,g3,g4⟩:=h.at hk;let ⟨fa,_⟩:=h.all k ok l m N g1 g2 c g4;rcases h.unordered hw.closed ho C hrd g1 b with⟨r1,r2⟩|⟨r1,r2,_⟩
  let ⟨t1,t2⟩:=h.apart r1 g1 ho g2 hf r2;refine⟨ok,l,g1,g2,fa,(i_ t1).1,r2,?_⟩;rcases t2 with t|t|t
  exact .inl t;exact .inr (.inl t);exact .inr (.inr ⟨λx q=>(t.ww x q).1,t.W9.1,t.tR,λhc=>(t.My hc).2,λhc=>(t.Mz hc).1,t.rI.1,t.rI.2⟩);let ⟨t1,t2⟩:=h.apart r1 ho g1 hf g2 r2;refine⟨ok,l,g1,g2,fa,(i_ t1).2.2,?_,?_⟩;cases R:((oC ops.toList []).getD i 0).testBit k with
  |false=>rfl
  |true=>have:=h.bn5 ho R;omega
  rcases t2 with t|t|t
  exact .inr (.inl t);exact .inl t;exact .inr (.inr ⟨λx q=>t.wr x q,t.W_.1,λhc=>t.tR ⟨hc.2,hc.1⟩,λhc=>(t.Mz hc).2,λhc=>(t.My hc).1,t.rI.2,t.rI.1⟩)
 have O:Hj ops n0 ops.size ((oC ops.toList []).getD i 0) o f st mx σ:=by
  refine⟨λt ht=>?_,λid hid=>?_,λhc=>⟨?_,λid hid=>?_⟩,λhc=>⟨?_,λid=>?_⟩⟩;rw[hw.mx,e4];refine xA t _ 0 _ _ rfl (λk u hu b=>?_);obtain⟨m,c,rfl⟩:=sY hu;rw[bj]at b;let ⟨ok,l,g1,g2,fa,gb,_⟩:=diff k m c b;cases q:m.uU t with
  |none=>rfl
  |some v=>exact b8 ht (gb t (fa.tmp t (by simp[q])))
  rw[hw.tu,e5];refine xA id _ 0 _ _ rfl (λk u hu b=>?_);obtain⟨m,c,rfl⟩:=sY hu;rw[bj]at b;let ⟨ok,l,g1,g2,fa,_,_,kc⟩:=diff k m c b;cases q:m.tC id with
  |none=>rfl
  |some v=>
   rcases kc with t|t|⟨t1,t2,t3,t4,_,t6⟩
   rw[(fa.idle t).1 id]at q;cases q;rw[(B.idle t).2.2.1]at hid;cases hid;rcases fa.obj id (by simp[q])with g|g|⟨g,g'⟩|g
   exact b8 hid (t1 id g);exact b8 hid (g▸t2);have:=t4 g id hid;omega;rw[t6.1]at g;cases g
  rw[hw.gA,e6];refine xA () _ 0 _ _ rfl (λk u hu b=>?_);obtain⟨m,c,rfl⟩:=sY hu;rw[bj]at b;let ⟨ok,l,g1,g2,fa,_,_,kc⟩:=diff k m c b;have D:l.call=U:=by
   cases D:l.call with
   |false=>rfl
   |true=>
    rcases kc with t|t|⟨_,_,t3,_⟩
    rw[(fa.idle t).2.1]at D;cases D;rw[(B.idle t).2.1]at hc;cases hc;exact b8 ⟨D,hc⟩ t3
  have hbk:l.pW=U:=by
   rcases kc with t|t|⟨_,_,_,_,_,t6,_⟩
   exact(fa.idle t).2.2.2;rw[(B.idle t).2.1]at hc;cases hc;exact t6
  exact fa.num D hbk;rw[hw.tu,e5];refine xA id _ 0 _ _ rfl (λk u hu b=>?_);obtain⟨m,c,rfl⟩:=sY hu;rw[bj]at b;let ⟨ok,l,g1,g2,fa,_,qm,kc⟩:=diff k m c b;cases q:m.tC id with
  |none=>rfl
  |some v=>
   rcases kc with t|t|⟨_,_,t3,_,t5⟩
   rw[(fa.idle t).1 id]at q;cases q;rw[(B.idle t).2.1]at hc;cases hc;rcases fa.obj id (by simp[q])with g|g|⟨g,_⟩|g
   rw[t5.1 hc]at g;cases g;exact b8 (am2.2 ⟨k,(aP.1 g1).1,qm,g⟩) hid;exact b8 ⟨g,hc⟩ t3;rw[t5.2.1]at g;cases g
  rw[hw.gA,e6];refine xA () _ 0 _ _ rfl (λk u hu b=>?_);obtain⟨m,c,rfl⟩:=sY hu;rw[bj]at b;let ⟨ok,l,g1,g2,fa,_,_,kc⟩:=diff k m c b;rcases kc with t|t|⟨_,_,_,_,_,_,t6⟩
  exact fa.num (fa.idle t).2.1 (fa.idle t).2.2.2;rw[(B.idle t).2.2.2]at hc;cases hc;rw[t6]at hc;cases hc;rw[hw.tu,e5];refine xA id _ 0 _ _ rfl (λk u hu b=>?_);obtain⟨m,c,rfl⟩:=sY hu;rw[bj]at b;let ⟨ok,l,g1,g2,fa,_,_,kc⟩:=diff k m c b;rcases kc with t|t|⟨_,_,_,_,_,_,t6⟩
  exact(fa.idle t).1 id;rw[(B.idle t).2.2.2]at hc;cases hc;rw[t6]at hc;cases hc
 have later:∀k m,evs[k]?=Z m->i<k->p k=Y->∃ok l,ops[k]?=Z ok/\fs[k]?=Z l/\Ew n0 ops.size k ok l m/\(∀d,o.dst=Z d->ok.dst≠Z d)/\(idle ok.op=Y\/idle o.op=Y\/Li n0 i k f l):=by
  intro k m c r s;have hk:k<ops.size:=by have:=(aq.1 c).1;rw[h.l2]at this;exact this
  let ⟨ok,l,ek',N,g1,g2,g3,g4⟩:=h.at hk;let ⟨fa,_⟩:=h.all k ok l m N g1 g2 c g4;have hm:((oC ops.toList []).getD k 0).testBit i=U:=by
   cases R:((oC ops.toList []).getD k 0).testBit i with
   |false=>rfl
   |true=>have:=yq hw.closed k ok g1 (hw.closed k ok g1 s) i R;rw[C]at this;cases this
  let ⟨t1,t2⟩:=h.apart r ho g1 hf g2 hm;refine⟨ok,l,g1,g2,fa,(i_ t1).2.1,?_⟩;rcases t2 with t|t|t
  exact .inr (.inl t);exact .inl t;exact .inr (.inr t)
 refine e2 G a w mx σ hw.rel O (hw.free i a7 C) hw.U9 K Q ?_;intro G' a' w' σ' g1 g2 g3 g4 g5 g6 g7;refine hK G' _ σ' a' w' ⟨g5,λt=>?_,λid=>?_,?_,λj hj J=>?_,λj oj S J e he R=>?_,by have:=hw.U9;omega,hw.uS.trans ⟨g1,λk hk hg=>g2 k (by omega) (by omega) hg,g3,g4⟩ (ay _)⟩;have:=Jy (p:=p) t (u0:=ev.uU) (evs.map (·.uU)) 0 i s0.get (by simp[I]) (by simpa using C) (λk u hu r s b=>by
  obtain⟨m,c,rfl⟩:=sY hu;let ⟨ok,l,_,_,fa,gb,_⟩:=later k m c r (by simpa using s);cases q:m.uU t with
  |none=>rfl
  |some v=>exact b8 (fa.tmp t (by simp[q])) (gb t (B.tmp t b)))
 simp only[bj]at this;rw[this,hw.mx];have:=Jy (p:=p) id (u0:=ev.tC) (evs.map (·.tC)) 0 i s0.st.bF (by simp[I]) (by simpa using C) (λk u hu r s b=>by
  obtain⟨m,c,rfl⟩:=sY hu;let ⟨ok,l,_,_,fa,_,kc⟩:=later k m c r (by simpa using s);cases q:m.tC id with
  |none=>rfl
  |some v=>
   rcases kc with t|t|t
   rw[(fa.idle t).1 id]at q;cases q;exact b8 ((B.idle t).1 id) b;have o1:=B.obj id b;have o2:=fa.obj id (by simp[q]);have hk:k<ops.size:=by have:=(aq.1 c).1;rw[h.l2]at this;exact this
   have o1:id∈f.wr\/id=n0+i\/(f.call=Y/\f.gA<=id):=by
    rcases o1 with h'|h'|h'|h'
    exact .inl h';exact .inr (.inl h');exact .inr (.inr h');rw[t.rI.1]at h';cases h'
   have o2:id∈l.wr\/id=n0+k\/(l.call=Y/\l.gA<=id):=by
    rcases o2 with h'|h'|h'|h'
    exact .inl h';exact .inr (.inl h');exact .inr (.inr h');rw[t.rI.2]at h';cases h'
   rcases o1 with E|E|⟨E,a1'⟩<;>rcases o2 with H|H|⟨H,b1'⟩
   exact b8 H (t.ww id E).2;exact b8 E (H▸t.W_.2);rw[(t.Mz H).1]at E;cases E;exact b8 H (E▸t.W9.2);omega;have:=fa.start H;omega;rw[(t.My E).1]at H;cases H;have:=B.start E;omega;exact b8 ⟨E,H⟩ t.tR)
 simp only[bj]at this;rw[g6,this,hw.tu];have:=Jy (p:=p) () (u0:=λ_:Unit=>ev.uf) (evs.map λe=>λ_:Unit=>e.uf) 0 i (λ_=>s0.st.next) (by simp[I]) (by simpa using C) (λk u hu r s b=>by
  obtain⟨m,c,rfl⟩:=sY hu;let ⟨ok,l,_,_,fa,_,kc⟩:=later k m c r (by simpa using s);cases q:m.uf with
  |none=>rfl
  |some v=>
   rcases kc with t|t|t
   rw[fa.num (fa.idle t).2.1 (fa.idle t).2.2.2]at q;cases q;exact b8 (B.num (B.idle t).2.1 (B.idle t).2.2.2) b;have c1:f.call=Y:=by
    cases hc:f.call with
    |true=>rfl
    |false=>exact b8 (B.num hc t.rI.1) b
   have c2:l.call=Y:=by
    cases hc:l.call with
    |true=>rfl
    |false=>rw[fa.num hc t.rI.2]at q;cases q
   exact b8 ⟨c1,c2⟩ t.tR)
 simp only[bj]at this;rw[g7,this,hw.gA];have M:j≠i:=λe=>by subst e;simp at J
 have:p j=U:=by simpa[M]using J
 exact g2 (n0+j) (by omega) (by omega) (hw.free j hj this);by_cases M:j=i;subst M;simp[z oj S e he R];have:p j=Y:=by simpa[M]using J
 simp[hw.closed j oj S this e he R]
def Way.any(h:Lex P ops n n0 fs evs sts s0)(Q:Exit->Act->World->Prop)
  (v:∀p G mx σ a w,Way ops n n0 evs s0 G0 σ0 qs p G mx σ a w->(∀i,i<ops.size->p i=Y)->Q .normal a w) :
  ∀(fuel:Nat) (listed:Array Bool) (G:ca) (mx:Nat->bX) (σ:bg) (a:Act) (w:World),listed.size=ops.size->left ops.size (listed.getD · U)=fuel ->
   Way ops n n0 evs s0 G0 σ0 qs (listed.getD · U) G mx σ a w->wpAny P .any ops Q fuel listed a w:=by
 have nil:∀(listed:Array Bool),listed.size=ops.size->bO .any ops listed=[]->∀i,i<ops.size->listed.getD i U=Y:=by
  intro listed b d i
  induction i using ir with
  |_ i r=>
   intro a7;cases hl:listed.getD i U with
   |true=>rfl
   |false=>
    let ⟨o,f,ev,st,ho,_⟩:=h.at a7;have:i∈bO .any ops listed:=mem_ready.2 ⟨by simp[b,a7]at hl⊢;exact hl,o,ho,λe he x=>by
     have c:=h.FF ho he x;exact r e.on c (by omega)⟩
    rw[d]at this;cases this
 intro fuel
 induction fuel with
 |zero=>
  intro listed G mx σ a w b g hw;have k:=NV g;refine⟨?_,v _ _ _ _ _ _ hw k⟩;cases z:bO .any ops listed with
  |nil=>rfl
  |cons i is=>
   have:i∈bO .any ops listed:=by rw[z];simp
   let ⟨h1,o,ho,_⟩:=mem_ready.1 this;have a7:=(aP.1 ho).1;have:=k i a7;simp[b,a7]at h1 this;rw[h1]at this;cases this
 |succ fuel r=>
  intro listed G mx σ a w b g hw;refine⟨λd=>v _ _ _ _ _ _ hw (nil listed b d),λi a7=>?_⟩;let ⟨h1,o,ho,s⟩:=mem_ready.1 a7;have c:=(aP.1 ho).1;have m:listed.getD i U=U:=by simp[b,c]at h1⊢;exact h1
  have l:∀j,(listed.setIfInBounds i Y).getD j U=(j==i||listed.getD j U):=λj=>by
   by_cases e:j=i;subst e;simp[b,c];rw[getD_set_ne U (kx e)];have:(j==i)=U:=by simpa using e
   rw[this];rfl
  refine Way.step h hw c m (λo' q=>by rw[ho]at q;cases q;exact s) _ Q ?_;intro G' t σ' B w' u;refine r (listed.setIfInBounds i Y) G' t σ' B w' (by simp[b]) ?_ (by
   have e:=funext l;rw[e];exact u)
  have e:=funext l;rw[e];have:=O3 (p:=λj=>listed.getD j U) c m;omega
end
def nw.drawn{T:bY}(cb:rk P T)(hm:P.follows .mixedOrders=Y){cl:FuncId->eX->bg->dv (bX×bg)}
  (D:∀f args σ v σ',cl f args σ=Z (v,σ')->oO P f args σ (λH m=>H=v/\m=σ')/\qb σ σ')
  {id:Nat}   (h:BQ T cl ops s=Z s') {Q:Exit->bl->Prop} (I:Q .normal s'):nw P (.region id ops Y) Q s:=by
 unfold BQ at h;split at h
 case isFalse=>cases h
 rename_i qJ;split at h
 case h_2=>cases h
 rename_i s1 fs J;split at h
 case isFalse=>cases h
 rename_i wV;cases h;intro G a w b;refine wp_region_any hm ?_;let ⟨evs,sts,l2,x8,pG,K,q,g1,g2,g3⟩:=P6 cb D ops.toList 0 _ _ fs (λj=>by simp) (by simp) (ay _) J;have r:Lex P ops s.n s.st.next fs evs sts { s with st:={ s.st with next:=s.st.next+ops.size } }:=⟨qJ,wV,l2,x8,pG,λj o f ev st h1 h2 M N=>by
  have:=q j o f ev st (by simpa using h1) h2 M N;simpa using this⟩
 have i:left ops.size ((bq ops.size U).getD · U)=ops.size:=by
  unfold left;rw[List.filter_eq_self.2 (λx z=>by
   have:x<ops.size:=by simpa using z
   simp[this])]
  simp
 have B:∀j,(bq ops.size U).getD j U=U:=λj=>by by_cases hj:j<ops.size<;>simp[hj]
 refine Way.any r (G0:=G) (σ0:=s.st) (qs:=w) _ ?_ ops.size (bq ops.size U) G s.get { s.st with next:=s.st.next+ops.size } a { w with drawn:=w.drawn+1 } (by simp) i ?_;intro p G' mx σ O w' hw hp;have agree:∀ {L V:Type} (us:cu (L->dv V)) (f:L->V),aa us=ops.size->fold p us 0 f=fold (λ_=>Y) us 0 f:=λus f hl=>funext λl=>xA l us 0 f f rfl (λj u hu C=>by
  have hj:j<ops.size:=by have:=(aq.1 hu).1;omega
  rw[bj]at C;exact b8 (hp j hj) C)
 have d:σ.next=s'.st.next:=by rw[hw.gA,agree _ _ (by simp[l2]),g3]
 have g:∀k,σ.bF k=s'.st.bF k:=λk=>by rw[hw.tu,agree _ _ (by simp[l2]),g2]
 have E:∀t,mx t=s'.get t:=λt=>by rw[hw.mx,agree _ _ (by simp[l2]),g1]
 refine⟨s',G',⟨hw.uS.le,hw.uS.keeps,by rw[<-d];exact hw.uS.next,hw.uS.bb.trans (Fr.less λk x z=>by rw[g];exact z)⟩,⟨hw.rel.defers,by rw[hw.rel.size,K],λt=>by rw[<-E];exact hw.rel.tmps t,hw.rel.rel.less d.symm (λk x z=>by rw[g];exact z)⟩,I⟩;have c:∀ {L V:Type} (us:cu (L->dv V)) (f:L->V) (l:L),fold ((bq ops.size U).getD · U) us 0 f l=f l:=λus f l=>Bz l us 0 f _ (λj u _ hp=>by rw[B]at hp;cases hp) rfl;refine⟨⟨b.defers,b.size,b.tmps,(b.rel.next (aZ _ _)).drawn _⟩,λt=>(c _ _ _).symm,λk=>(c _ _ _).symm,(c (evs.map λe=>λ_:Unit=>e.uf) (λ_=>s.st.next+ops.size) ()).symm,λj _ _=>b.rel.fresh _ (aZ _ _),(λj o _ hp=>by rw[B]at hp;cases hp),ay _,?_⟩;exact⟨.refl G,.refl _ G,aZ _ _,(Fr.less (σ:=s.st) (σ':={ s.st with next:=s.st.next+ops.size }) (λ_ _ h=>h)).trans (Fr.MM _ _ _ _ (aZ _ _))⟩
def K6(T:bY)(t:TypeId)(args:eX)(σ:bg):dv (bX×bg) :=
 match args with
 | [x]=>match T t with
  |some { j4:=.slice elem,.. }=>match T elem with
   |some a=>match oS σ x with
    |some xs=>ite ((xs.all λc=>aa c==a.size&&c.all bX.one)=Y/\(2*aa xs+1000)*a.bytes<=2^48/\aa xs<=2^62/\0<a.size) (match x.isNil with
      |some Y=>Z (.b4 (.slice W 0 0),{ σ with next:=σ.next+7 })
      |_=>Z (.ms (σ.next+5) a.size 0 (aa xs),{ σ with next:=σ.next+7 }.set (σ.next+5) (.row elem a.size xs))) <|none
    |none=>W
   |none=>W
  |_=>W
 |_=>W
def KR(args:eX)(σ:bg):dv (bX×bg) :=
 match args with
 | [.b4 (.int .u64 x),.b4 (.int .u64 y),.b4 (.int .u64 c)]=>ite (0<=x/\0<=y/\(c=0\/c=1)) (Z (.ed [.b4 (.int .u64 ((x+y+c)%18446744073709551616)),.b4 (.int .u64 ((x+y+c) / 18446744073709551616))],σ)) <|none
 |_=>W
def ef.ofList{α:Type}:cu (Nat×α)->ef α->ef α
 | [],t=>t
 | (k,v)::l,t=>ef.ofList l (t.set k (Z v))
def ef.JU:∀(l:cu (Nat×α)) (t:ef α) (k:Nat) (v:α),(ef.ofList l t).get k=Z v->(k,v)∈l\/t.get k=Z v
 | [],t,k,v,h=>.inr h
 | (j,u)::l,t,k,v,h=>by
  rcases ef.JU l (t.set j (Z u)) k v h with h1|h1
  exact .inl (bC _ h1);rw[ef.FL]at h1;split at h1;rename_i e;cases h1;exact .inl (by rw[e];simp);exact .inr h1
def Vm(P:Program):ef Func:=ef.ofList (P.funcs.toList.zipIdx.map λp=>(p.2,p.1)) .leaf
def bh8(P:Program)(f:FuncId)(fn:Func)(h:(Vm P).get f=Z fn):P.funcs[f]?=Z fn:=by
 rcases ef.JU _ _ _ _ h with h|h
 grind
 rw[ef.uF]at h;cases h
def uZ(f:bX->dv bX):eX->dv eX
 | []=>Z []
 |c::cs=>match f c,uZ f cs with
  |some x,Z xs=>Z (x::xs)
  |_,_=>W
def Gd(f:bX->dv bX):cu eX->dv (cu eX)
 | []=>Z []
 |c::cs=>match uZ f c,Gd f cs with
  |some x,Z xs=>Z (x::xs)
  |_,_=>W
def yA{f:bX->dv bX}:∀ {l a:eX},uZ f l=Z a->aa a=aa l/\∀i (h:i<aa l) (h':i<aa a),f l[i]=Z a[i]
 | [],a,h=>by simp only[uZ,ah]at h;subst h;exact⟨rfl,λi h=>by simp at h⟩
 |c::cs,a,h=>by unfold uZ at h;split at h;rename_i x xs h1 h2;cases h;let ⟨d,e⟩:=yA h2;refine⟨by simp[d],λi a7 b=>?_⟩;cases i;exact h1;rename_i i;exact e i (by simpa using a7) (by simpa using b);cases h
def aw7{f:bX->dv bX}:∀ {l a:cu eX},Gd f l=Z a->aa a=aa l/\∀i (h:i<aa l) (h':i<aa a),uZ f l[i]=Z a[i]
 | [],a,h=>by simp only[Gd,ah]at h;subst h;exact⟨rfl,λi h=>by simp at h⟩
 |c::cs,a,h=>by unfold Gd at h;split at h;rename_i x xs h1 h2;cases h;let ⟨d,e⟩:=aw7 h2;refine⟨by simp[d],λi a7 b=>?_⟩;cases i;exact h1;rename_i i;exact e i (by simpa using a7) (by simpa using b);cases h
def Live(G:ca)(σ:bg)(b:Nat):Prop:=∃id o p,σ.bF id=Z o/\G.pl id=Z p/\p.mX=U/\p.block=b
open Classical in
noncomputable def ca.frozen(G:ca)(σ:bg)(w:World)(pl:Nat->dv nt):ca :={ qs:=G.qs,lo:=λb=>ite (Live G σ b) (w.heap[b]?) <|G.lo b,pl:=pl }
def tc{w:World}(h:Rel G σ w){b:Nat}{o:Obj}(a:G.lo b=Z o):(G.frozen σ w pl).lo b=Z o:=by simp only[ca.frozen];split;rename_i hl;obtain⟨id,x,p,h1,h2,c,rfl⟩:=hl;rw[(h.real h1 h2 c).1]at a;cases a;exact a
def Nr{w:World}(h:Rel G σ w){b o:Nat}{v:Value}(hc:G.cell b o=Z v):(G.frozen σ w pl).cell b o=Z v:=by
 unfold ca.cell at *;cases a:G.lo b with
 |none=>simp[a]at hc
 |some x=>rw[tc h a];simpa[a]using hc
def bg.none:bg:={ next:=0,mZ:=.leaf,low:=0 }
def bg.sZ(id:Nat):bg.none.bF id=lJ:=ef.uF id
def K3:Value->Value->Bool
 | .bool a,.bool b=>a==b
 | .int k a,.int l b=>No (k=l)&&No (a=b)
 | .string a,.string b=>No (a=b)
 | .slice W 0 0,.slice W 0 0=>Y
 |_,_=>U
def aD9{a b:Value}(h:K3 a b=Y):a=b:=by
 unfold K3 at h
 grind
def ye(f:bX->bX->Bool):eX->eX->Bool
 | [],[]=>Y
 |a::az,b::fA=>f a b&&ye f az fA
 |_,_=>U
def D3(f:bX->bX->Bool):cu eX->cu eX->Bool
 | [],[]=>Y
 |a::az,b::fA=>ye f a b&&D3 f az fA
 |_,_=>U
def Ga{f:bX->bX->Bool}(hf:∀a b,f a b=Y->a=b):∀ {l m:eX},ye f l m=Y->l=m
 | [],[],_=>rfl
 | [],_::_,h=>by simp[ye]at h
 |_::_,[],h=>by simp[ye]at h
 |a::az,b::fA,h=>by simp only[ye,ab]at h;rw[hf a b h.1,Ga hf h.2]
def az4{f:bX->bX->Bool}(hf:∀a b,f a b=Y->a=b):∀ {l m:cu eX},D3 f l m=Y->l=m
 | [],[],_=>rfl
 | [],_::_,h=>by simp[D3]at h
 |_::_,[],h=>by simp[D3]at h
 |a::az,b::fA,h=>by simp only[D3,ab]at h;rw[Ga hf h.1,az4 hf h.2]
structure Ug where
 f:FuncId
 args:List bX
 c:bX
def oX(P:Program)(m:Ug):Prop:=∀σ,oO P m.f m.args σ (λv σ'=>v=m.c/\σ'=σ)
def zM(P:Program):Nat->cu Field->Bool
 |_,[]=>Y
 |i,f::fs=>(f.name != "_")&&aw f.offset i&&(match P.underlying f.type with | some (.int _)=>Y | _=>U)&&zM P (i+1) fs
def Lx(P:Program)(t:TypeId):dv Nat:=match P.underlying t with
 |some (.int _)=>Z 1
 |some (.struct fs)=>match !P.stoodInHeld t&&zM P 0 fs.toList,P.info? t with
  |true,Z i=>match aw i.size fs.size with
   |true=>Z fs.size
   |false=>W
  |_,_=>W
 |_=>W
def wQ(P:Program):Nat->cu Field->dv Nat
 |i,[]=>Z i
 |i,f::fs=>match(f.name != "_")&&aw f.offset i with
  |true=>match Lx P f.type with
   |some k=>wQ P (i+k) fs
   |none=>W
  |false=>W
def ud(o:dv Nat)(n:Nat):Bool:=match o with
 |some m=>aw m n
 |none=>U
def QX(P:Program)(t:TypeId)(n:Nat):dv Nat :=
 match P.eqGuardType P.depth t with
 |true=>W
 |false=>match P.underlying t with
  |some (.struct fs)=>ite (!P.stoodInHeld t&&ud (wQ P 0 fs.toList) n) (Z n) <|none
  |some (.array len elem)=>match P.underlying elem,P.info? elem with
   |some (.int _),Z i=>ite (aw i.size 1&&aw len n) (Z n) <|none
   |_,_=>W
  |_=>W
def C3(P:Program)(t:TypeId):dv nk :=
 match P.underlying t,P.info? t with
 |some u,Z i=>match i.zero with
  |some z=>match aw z.cells.size i.size with
   |true=>Z { j4:=u,size:=i.size,zero:=z,bytes:=i.bytes,flat:=QX P t i.size }
   |false=>W
  |none=>W
 |_,_=>W
def tp(l:eD):Array Value:=(l.map (bK .i64)).toArray
def ca3(k:Nat){xs ys:eD}(h:aa xs=aa ys):(xs==ys)=((xs.take k==ys.take k)&&(xs.drop k==ys.drop k)):=by rw[Bool.eq_iff_iff];simp only[beq_iff_eq,ab];constructor;rintro rfl;exact⟨rfl,rfl⟩;rintro ⟨h1,h2⟩;rw[<-dJ k xs,<-dJ k ys,h1,h2]
section
variable {P:Program} (w:World)
def zA(h:P.underlying t=Z (.int k))(cs:Array Value)(off:Nat)(v:Value)(hv:cs[off]?=Z v):(part t cs off).run P w=.ok v w:=by simp[part,isAgg,underlying,h,hv]
def VM(d:Nat)(az fA:eD):∀(fs:cu Field) (i:Nat),zM P i fs=Y->i+aa fs=aa az->aa fA=aa az ->
  (gI (d+1) (az.map (bK .i64)).toArray (fA.map (bK .i64)).toArray fs).run P w=.ok (az.drop i==fA.drop i) w
 | [],i,_,h1,h2=>by simp only[cP,eC]at h1;simp[gI,h1,<-h2]
 |f::fs,i,hf,h1,h2=>by
  simp only[aA]at h1;simp only[zM,ab]at hf;let ⟨⟨⟨g,ho⟩,hu⟩,h⟩:=hf;have b:=ae ho;have c:f.name≠ "_":=by simpa using g
  split at hu;rename_i k hk;have ha:(az.map (bK .i64)).toArray[f.offset]?=Z (.int .i64 (az[i]'(by omega))):=by rw[b];simp
  have j:(fA.map (bK .i64)).toArray[f.offset]?=Z (.int .i64 (fA[i]'(by omega))):=by rw[b];simp
  have l:=VM d az fA fs (i+1) h (by omega) h2;have m:az.drop i=az[i]'(by omega)::az.drop (i+1):=bJ (by omega);have n:fA.drop i=fA[i]'(by omega)::fA.drop (i+1):=bJ (by omega);simp only[gI,cr c,ax,zA w hk _ _ _ ha,zA w hk _ _ _ j,ao,run_equalIn_int w d f.type .i64 k _ _ hk];have key:(az.drop i==fA.drop i)=((az[i]'(by omega)==fA[i]'(by omega))&&(az.drop (i+1)==fA.drop (i+1))):=by rw[m,n];exact kB
  rw[key];by_cases e:az[i]'(by omega)=fA[i]'(by omega);have a:(az[i]'(by omega)==fA[i]'(by omega))=Y:=by simpa using e
  simp only[a,ar,aF,l4,l,bQ];have a:(az[i]'(by omega)==fA[i]'(by omega))=U:=by simpa using e
  simp only[a,aQ,vE,bd,gC];cases hu
def Vk(b:Bool)(d:Nat)(az:eD):∀(fs:cu Field) (i:Nat),zM P i fs=Y->i+aa fs=aa az ->
  (forIn fs dH (λ(f:Field) (_:PUnit)=>do
    if f.name≠ "_" then bL b (d+1) f.type (<- part f.type (az.map (bK .i64)).toArray f.offset)
    pure (gw dH)):Sem PUnit).run P w=.ok dH w
 | [],i,_,h1=>by simp
 |f::fs,i,hf,h1=>by
  simp only[aA]at h1;simp only[zM,ab]at hf;let ⟨⟨⟨g,ho⟩,hu⟩,h⟩:=hf;have a:=ae ho;have c:f.name≠ "_":=by simpa using g
  split at hu;rename_i k hk;have ha:(az.map (bK .i64)).toArray[f.offset]?=Z (.int .i64 (az[i]'(by omega))):=by rw[a];simp
  have j:=Vk b d az fs (i+1) h (by omega);have e:(bL b (d+1) f.type (.int .i64 (az[i]'(by omega)))).run P w=.ok () w:=by simp[bL,underlying,hk]
  rw[gO];simp only[cr c,ax,zA w hk _ _ _ ha,ao,e];exact j;cases hu
def bm6{fs:Array Field}(hu:P.underlying t=Z (.struct fs))(hf:zM P 0 fs.toList=Y)(b:Bool)(d:Nat)(az:eD)(h1:aa az=fs.size) :
  (bL b (d+2) t (.agg (az.map (bK .i64)).toArray)).run P w=.ok () w:=by
 have:=Vk w b d az fs.toList 0 hf (by simp[h1]);rw[bL];simp only[ax,run_underlying hu,ao];rw[<-kn];have e:=Ar (λr=>r.andThen λ(_:PUnit) w'=>je P (pure ()) w') this;exact e
structure Lw(P:Program)(w:World)(t:TypeId)(k d:Nat):Prop where
 ok:∀(az:List Int) (off:Nat),off+k<=aa az->∃v,(part t (tp az) off).run P w=.ok v w/\(∀b,(bL b d t v).run P w=.ok () w) /\
  ∀(fA:List Int),aa fA=aa az->∃u,(part t (tp fA) off).run P w=.ok u w/\(eP d t v u).run P w=.ok ((az.drop off).take k==(fA.drop off).take k) w
def ar1{az:eD}(h:off<aa az):(az.drop off).take 1=[az[off]]:=by rw[bJ h];rfl
def ba6(h:P.underlying t=Z (.int k))(d:Nat):Lw P w t 1 (d+1):=by refine⟨λaz off ho=>⟨.int .i64 (az[off]'(by omega)),zA w h _ _ _ (by simp[tp]),λb=>by simp[bL,underlying,h],λfA a=>⟨.int .i64 (fA[off]'(by omega)),zA w h _ _ _ (by simp[tp]),?_⟩⟩⟩;rw[run_equalIn_int w d t .i64 k _ _ h,ar1 (by omega),ar1 (by omega)];simp
def bQ8(az:eD)(off k:Nat):(tp az).extract off (off+k)=tp ((az.drop off).take k):=by unfold tp;simp
def bS5{fs:Array Field}(hu:P.underlying t=Z (.struct fs))(hs:P.stoodInHeld t=U)(hf:zM P 0 fs.toList=Y)(hz:∀w,(sizeOf t).run P w=.ok fs.size w)(d:Nat):Lw P w t fs.size (d+3):=by
 have a:P.fieldsOf t=fs:=by simp[ko,hu]
 have hp:∀(az:eD) (off:Nat),(part t (tp az) off).run P w=.ok (.agg (tp ((az.drop off).take fs.size))) w:=λaz off=>by rw[<-bQ8];simp[part,isAgg,underlying,hu,hz]
 refine⟨λaz off ho=>⟨_,hp az off,λb=>?_,λfA c=>⟨_,hp fA off,?_⟩⟩⟩;exact bm6 w hu hf b (d+1) ((az.drop off).take fs.size) (by simp;omega);rw[run_equalIn_struct w (d+2) t _ _ (by rw[a];exact hu) hs,a];have:=VM w (d+1) ((az.drop off).take fs.size) ((fA.drop off).take fs.size) fs.toList 0 hf (by simp;omega) (by simp;omega);simpa[tp]using this
def Tx{k:Nat}(h:Lx P t=Z k)(d:Nat):Lw P w t k (d+3):=by unfold Lx at h;split at h;rename_i b hk;cases h;exact ba6 w hk (d+2);rename_i fs hu;split at h;rename_i i hc a7;split at h;rename_i a;cases h;simp only[ab,dt]at hc;have a:=ae a;exact bS5 w hu hc.1 hc.2 (λw=>by simp[sizeOf,typeInfo,a7,a]) d;cases h;cases h;cases h
def NO:∀(fs:cu Field) (i n:Nat),wQ P i fs=Z n->i<=n
 | [],i,n,h=>by simp only[wQ,ah]at h;omega
 |f::fs,i,n,h=>by unfold wQ at h;split at h;split at h;have:=NO fs _ n h;omega;cases h;cases h
def an2(d:Nat)(az fA:eD):∀(fs:cu Field) (i:Nat),wQ P i fs=Z (aa az)->aa fA=aa az ->
  (gI (d+3) (tp az) (tp fA) fs).run P w=.ok (az.drop i==fA.drop i) w
 | [],i,h1,h2=>by simp only[wQ,ah]at h1;simp[gI,h1,<-h2]
 |f::fs,i,h1,h2=>by
  unfold wQ at h1;split at h1;rename_i hc;split at h1;rename_i k hk;simp only[ab]at hc;have a:f.name≠ "_":=by simpa using hc.1
  have b:=ae hc.2;have hle:=NO fs _ _ h1;let ⟨v,hv,_,c⟩:=(Tx w hk d).ok az i hle;let ⟨u,hu,he⟩:=c fA h2;have e:=an2 d az fA fs (i+k) h1 h2;simp only[gI,cr a,ax,b,hv,hu,ao,he];have key:=ca3 k (xs:=az.drop i) (ys:=fA.drop i) (by simp[h2]);rw[gD,gD]at key;rw[key];cases g:(az.drop i).take k==(fA.drop i).take k with
  |true=>simp only[ar,aF,l4,e,bQ]
  |false=>simp only[aQ,vE,bd,gC]
  cases h1;cases h1
def V4(b:Bool)(d:Nat)(az:eD):∀(fs:cu Field) (i:Nat),wQ P i fs=Z (aa az) ->
  (forIn fs dH (λ(f:Field) (_:PUnit)=>do
    if f.name≠ "_" then bL b (d+3) f.type (<- part f.type (tp az) f.offset)
    pure (gw dH)):Sem PUnit).run P w=.ok dH w
 | [],i,h1=>by simp
 |f::fs,i,h1=>by
  unfold wQ at h1;split at h1;rename_i hc;split at h1;rename_i k hk;simp only[ab]at hc;have a:f.name≠ "_":=by simpa using hc.1
  have c:=ae hc.2;have hle:=NO fs _ _ h1;let ⟨v,hv,e,_⟩:=(Tx w hk d).ok az i hle;rw[gO];simp only[cr a,ax,c,hv,ao,e b];exact V4 b d az fs (i+k) h1;cases h1;cases h1
def bH9{fs:Array Field}(hu:P.underlying t=Z (.struct fs))(hs:P.stoodInHeld t=U)(az fA:eD)(hf:wQ P 0 fs.toList=Z (aa az))(h2:aa fA=aa az) :
  (eP 10000 t (.agg (tp az)) (.agg (tp fA))).run P w=.ok (az==fA) w /\
  ∀b,(bL b 10000 t (.agg (tp az))).run P w=.ok () w:=by
 have a:P.fieldsOf t=fs:=by simp[ko,hu]
 constructor;rw[run_equalIn_struct w 9999 t _ _ (by rw[a];exact hu) hs,a,an2 w 9996 az fA fs.toList 0 hf h2];simp;intro b;have:=V4 w b 9996 az fs.toList 0 hf;rw[bL];simp only[ax,run_underlying hu,ao];rw[<-kn];have e:=Ar (λr=>r.andThen λ(_:PUnit) w'=>je P (pure ()) w') this;exact e
def Wd(hu:P.underlying elem=Z (.int k))(d:Nat)(az fA:eD)(h2:aa fA=aa az):∀(m i:Nat),i+m=aa az ->
  (forIn (eo i m) (W,dH) (λ(i:Nat) (_:dv Bool×PUnit)=>do
    if !(<-eP (d+1) elem (<-part elem (az.map (bK .i64)).toArray (i*1)) (<-part elem (fA.map (bK .i64)).toArray (i*1)))then pure (ForInStep.done (Z U,dH))else pure (gw (W,dH))):Sem (dv Bool×PUnit)).run P w=.ok (ite (az.drop i==fA.drop i) W <|some U,dH) w
 | 0,i,h1=>by simp only[eC]at h1;simp[h1,<-h2]
 |m+1,i,h1=>by
  have ha:(az.map (bK .i64)).toArray[i*1]?=Z (.int .i64 (az[i]'(by omega))):=by simp
  have c:(fA.map (bK .i64)).toArray[i*1]?=Z (.int .i64 (fA[i]'(by omega))):=by simp
  have e:=Wd hu d az fA h2 m (i+1) (by omega);have f:az.drop i=az[i]'(by omega)::az.drop (i+1):=bJ (by omega);have g:fA.drop i=fA[i]'(by omega)::fA.drop (i+1):=bJ (by omega);have key:(az.drop i==fA.drop i)=((az[i]'(by omega)==fA[i]'(by omega))&&(az.drop (i+1)==fA.drop (i+1))):=by rw[f,g];exact kB
  rw[kW,gO,key];simp only[ax,zA w hu _ _ _ ha,zA w hu _ _ _ c,ao,run_equalIn_int w d elem .i64 k _ _ hu];by_cases b:az[i]'(by omega)=fA[i]'(by omega);have a:(az[i]'(by omega)==fA[i]'(by omega))=Y:=by simpa using b
  simp only[a];exact e;have a:(az[i]'(by omega)==fA[i]'(by omega))=U:=by simpa using b
  simp only[a,aQ,vE,bd,ao,gC,aF,l4]
def Vx(hu:P.underlying elem=Z (.int k))(hz:(sizeOf elem).run P w=.ok 1 w)(b:Bool)(d:Nat)(az:eD):∀(m i:Nat),i+m=aa az ->
  (forIn (eo i m) dH (λ(i:Nat) (_:PUnit)=>do
    bL b (d+1) elem (<-part elem (az.map (bK .i64)).toArray (i*(<-sizeOf elem)))
    pure (gw dH)):Sem PUnit).run P w=.ok dH w
 | 0,i,h1=>by simp
 |m+1,i,h1=>by
  have ha:(az.map (bK .i64)).toArray[i*1]?=Z (.int .i64 (az[i]'(by omega))):=by simp
  have c:=Vx hu hz b d az m (i+1) (by omega);have a:(bL b (d+1) elem (.int .i64 (az[i]'(by omega)))).run P w=.ok () w:=by simp[bL,underlying,hu]
  rw[kW,gO];simp only[ax,hz,ao,zA w hu _ _ _ ha,a];exact c
def bn2(a:P.underlying t=Z (.array n elem))(hu:P.underlying elem=Z (.int k))(hz:(sizeOf elem).run P w=.ok 1 w)(b:Bool)(d:Nat)(az:eD)(h1:aa az=n) :
  (bL b (d+2) t (.agg (az.map (bK .i64)).toArray)).run P w=.ok () w:=by
 have:=Vx w hu hz b d az n 0 (by omega);rw[bL];simp only[ax,run_underlying a,ao];have e:=Ar (λr=>r.andThen λ(_:PUnit) w'=>je P (pure ()) w') this;simpa using e
def bI6(e:P.underlying t=Z (.array n elem))(hu:P.underlying elem=Z (.int k))(hz:(sizeOf elem).run P w=.ok 1 w)(d:Nat)(az fA:eD)(h1:aa az=n)(h2:aa fA=n) :
  (eP (d+2) t (.agg (az.map (bK .i64)).toArray) (.agg (fA.map (bK .i64)).toArray)).run P w=.ok (az==fA) w:=by
 have:=Wd w hu d az fA (by omega) n 0 (by omega);rw[eP];simp only[ax,run_underlying e,ao,hz];rw[lk];have a:[:n].size=n:=by simp
 rw[a]
 erw [this]
 simp only[ lD];by_cases c:(az==fA)=Y;simp[c];have b:(az==fA)=U:=by simpa using c
 rw[b];simp
def bc8(P:Program):rk P (C3 P):=by
 have a:∀t ti,C3 P t=Z ti->∃u i z,P.underlying t=Z u/\P.info? t=Z i/\i.zero=Z z/\z.cells.size=i.size/\ti={ j4:=u,size:=i.size,zero:=z,bytes:=i.bytes,flat:=QX P t i.size }:=by intro t ti h;unfold C3 at h;split at h;rename_i u i hu a7;split at h;rename_i z hz;split at h;rename_i q;cases h;exact⟨u,i,z,hu,a7,hz,ae q,rfl⟩;cases h;cases h;cases h
 refine⟨λt ti h=>?_,λt ti h=>?_,λt ti h=>?_,λt ti n h c=>?_⟩;obtain⟨u,i,z,h1,h2,f,g,rfl⟩:=a t ti h;exact h1;obtain⟨u,i,z,h1,h2,f,g,rfl⟩:=a t ti h;exact⟨i,h2,rfl,rfl,f⟩;obtain⟨u,i,z,h1,h2,f,g,rfl⟩:=a t ti h;exact g;obtain⟨u,i,z,h1,h2,f,g,rfl⟩:=a t ti h;unfold QX at c;split at c;cases c;rename_i r;refine⟨r,λaz fA w ha q=>?_⟩;split at c;rename_i fs d;split at c;rename_i hc;cases c;simp only[ab,dt]at hc;let ⟨j,e⟩:=hc;unfold ud at e;split at e;rename_i m hm;have l:=ae e;exact bH9 w d j az fA (by rw[hm,l,ha]) (by omega);cases e;cases c;rename_i len elem d;split at c;rename_i k v hk o;split at c;rename_i hc;cases c;simp only[ab]at hc;have p:=ae hc.1;have s:=ae hc.2;have hz:(sizeOf elem).run P w=.ok 1 w:=by simp[sizeOf,typeInfo,o,p]
 exact⟨bI6 w d hk hz 9998 az fA (by omega) (by omega),λb=>bn2 w d hk hz b 9998 az (by omega)⟩;cases c;cases c;cases c
def Qv(P:Program):ef nk:=ef.ofList ((aT P.types.size).filterMap λt=>(C3 P t).map λx=>(t,x)) .leaf
def bP9(P:Program):rk P ((Qv P).get ·):=by
 have key:∀t ti,(Qv P).get t=Z ti->C3 P t=Z ti:=by
  intro t ti h;rcases ef.JU _ _ _ _ h with h|h
  let ⟨x,_,b⟩:=dh.1 h;cases cb:C3 P x with
  |none=>simp[cb]at b
  |some y=>simp[cb]at b;obtain⟨rfl,rfl⟩:=b;exact cb
  rw[ef.uF]at h;cases h
 have a:=bc8 P;exact⟨λt ti h=>a.j4 t ti (key t ti h),λt ti h=>a.info t ti (key t ti h),λt ti h=>a.Lf t ti (key t ti h),λt ti n h=>a.flat t ti n (key t ti h)⟩
end
def vb.weaken{d:bX->bg->Prop}(h:vb P f args σ R)
  (j:∀v σ1,R v σ1->∃a,d v a/\σ1.next<=a.next/\∀k x,a.bF k=Z x->σ1.bF k=Z x):vb P f args σ d:=by
 intro G vs w h1 h2;refine(h G vs w h1 h2).mono ?_;rintro e w' ⟨v,g,σ1,G',rfl,b,l,m,n⟩;let ⟨a,c1,c2,i⟩:=j g σ1 n;have c:=m.next c2;exact⟨v,g,a,G',rfl,⟨b.le,b.keeps,bD b.next c2,b.bb.trans (Fr.less i)⟩,l,c.less rfl i,c1⟩
def cc7(b:∀args w,(callFunc f args).run P w=((add64Entry args).run P w).andThen λv w'=>.ok (.value v) w')(h:KR args σ=Z (v,σ')) :
  oO P f args σ (λe d=>e=v/\d=σ')/\qb σ σ':=by
 unfold KR at h;split at h;rename_i x y c;split at h;rename_i hc;cases h;refine⟨oO.bq6 _ ⟨rfl,rfl⟩ ?_,.refl _⟩;intro G vs w a _;obtain⟨v1,l2,rfl,g,a⟩:=a.cons_inv;obtain⟨v2,x8,rfl,j,a⟩:=a.cons_inv;obtain⟨v3,pG,rfl,k,a⟩:=a.cons_inv;rw[a.tr];cases g;cases j;cases k;refine⟨_,by rw[b,run_add64 x y c hc.1 hc.2.1 (by omega) (by omega)];rfl,?_⟩;exact .ed _ [_,_] rfl (λi h1 h2=>by
  match i with
  | 0=>exact .b4 _
  | 1=>exact .b4 _)
 cases h;cases h
structure u3(o:Oper)(d:Option Tmp)(op:Op):Prop where
 dst:o.dst=d
 op:o.op=op
 guard:o.guard=W
def u3.wanted(h:u3 o d op)(ops:Array Oper)(s:bl):pv ops s o=Z Y:=by simp[pv,h.guard]
section
variable {P:Program} {T:bY} {ops:Array Oper} {n0:Nat} {Q:bl->Prop} {s:bl}
def oT.is(cb:rk P T){d:Tmp}(ho:ops[i]?=Z o)(h:u3 o (Z d) op)(a7:i∉rest)(hd:d<s.n)
  (ha:fb T s.eval s.st (n0+i) op=Z (v,σ')) (hk:oT P ops n0 Q rest ({ s with st:=σ' }.put (Z d) v)):oT P ops n0 Q (i::rest) s:=by
 refine oT.plain cb ho a7 (h.wanted ops s) (by rw[h.dst];simpa[oz]using hd) (by rw[h.op];exact ha) (J9 ha).1 ?_;rw[h.dst];exact hk
def oT.bo3(cb:rk P T){d:Tmp}{yt:TypeId}{x:Operand}(ho:ops[i]?=Z o)(h:u3 o (Z d) (.binOp .eql t x (.const (.slice W 0 0)) yt))(hd:d<s.n)
  (v:T t=Z ti) (hu:ti.j4=.slice elem) (B:(∃es,s.eval x=.rs es)\/∃id z off len,s.eval x=.ms id z off len)
  (hk:∀b,oT P ops n0 Q rest (s.put (Z d) (.b4 (.bool b)))):oT P ops n0 Q (i::rest) s:=by
 intro G a w p hf C;have f:=p.eval x;have g:∃q l c,a.eval x=.slice q l c:=by generalize a.eval x=u at f;rcases B with⟨es,e⟩|⟨id,z,off,len,e⟩<;>rw[e]at f<;>cases f<;>exact⟨_,_,_,rfl⟩
 let ⟨q,l,c,r⟩:=g;simp only[wpOps,ho,zK p (h.wanted ops s)];left;have k:P.underlying t=Z (.slice elem):=by rw[cb.j4 t ti v,hu]
 have m:(execOp a.eval o).run P w=.ok (.value (.bool q.isNone)) w:=by have hc:a.eval (.const (.slice W 0 0))=.slice W 0 0:=rfl;simp only[execOp,h.op,r,hc,eqGuard,ax,binOp,gG,eJ];have e:=MG w 9999 t elem q l c k;simp only[ar,aF,l4,bd,ao,e]
 unfold gB;rw[m];simp only[iW];have:=hk q.isNone G (a.put (Z d) (.bool q.isNone)) w (p.put (.refl G) p.rel (.b4 _) (by simpa[oz]using hd)) (λj hj=>hf j (by simp[hj])) (by simpa using C);rw[h.dst];simpa using this
end
@[simp] theorem bl.cf0 (s:bl) (σ:bg) (t:Nat):({ s with st:=σ }:bl).get t=s.get t:=rfl
def AY:Operand:=.const (.slice W 0 0)
structure QC(fn:Func)(t:TypeId):Prop where
 ntmps:fn.ntmps=8
 results:fn.results=#[.tmp 2]
 body:∃i0 i1 i2 i3 o0 o1 o2 o3 o4 o5 o6 o7 yt,fn.body=Z (.seq (.region i0 #[o0] U) (.seq (.seq (.region i1 #[o1,o2] U) (.cond (.tmp 4) (.seq (.region i2 #[o3] U) .ret) .skip)) (.seq (.region i3 #[o4,o5,o6,o7] U) .ret))) /\
  u3 o0 (Z 2) (.assign AY)/\u3 o1 (Z 3) (.move (.tmp 0))/\u3 o2 (Z 4) (.binOp .eql t (.tmp 3) AY yt)/\u3 o3 (Z 2) (.assign AY) /\
  u3 o4 (Z 5) (.buildSlice t 0 #[])/\u3 o5 (Z 6) (.move (.tmp 0))/\u3 o6 (Z 7) (.call { callee:=.builtin .append,args:=#[.tmp 5,.tmp 6],argTypes:=#[t,t] })/\u3 o7 (Z 2) (.assign (.tmp 7))
def vb.ay8(h:(∀k x,σ.bF k=Z x->k<σ.next)->vb P f args σ R):vb P f args σ R :=λG vs w h1 h2=>h (λk x a=>h2.JT a) G vs w h1 h2
structure Step(s:bl)(d:Nat)(v:bX)(σ':bg)(s':bl):Prop where
 n:s'.n=s.n
 get:∀t,s'.get t=if t=d then v else s.get t
 st:s'.st=σ'
def Step.same{d:Nat}(h:Step s d v σ' s'):s'.get d=v:=by rw[h.get,cr rfl]
def Step.other{d t:Nat}(h:Step s d v σ' s')(a:t≠d):s'.get t=s.get t:=by rw[h.get,cc a]
section
variable {P:Program} {T:bY} {ops:Array Oper} {n0:Nat} {Q:bl->Prop} {s:bl}
theorem oT.step(cb:rk P T){d:Tmp}(ho:ops[i]?=Z o)(h:u3 o (Z d) op)(a7:i∉rest)(hd:d<s.n)
  (ha:fb T s.eval s.st (n0+i) op=Z (v,σ')) (hk:∀s',Step s d v σ' s'->oT P ops n0 Q rest s'):oT P ops n0 Q (i::rest) s :=
 oT.is cb ho h a7 hd ha (hk _ ⟨by simp,λt=>bl.I2 _ _ _ _,by simp⟩)
def nw.KA{Q:Exit->bl->Prop}{id:Nat}(h:∀s',s'.n=s.n->(∀t,s'.get t=s.get t)->s'.st={ s.st with next:=s.st.next+ops.size }->oT P ops s.st.next (Q .normal ·) (aT ops.size) s'):nw P (.region id ops U) Q s :=nw.region (h _ rfl (λ_=>rfl) rfl)
end
def X_{T:bY}(cb:rk P T){fn:Func}{d:nk}(i:QC fn t)(ht:T t=Z ti)(hu:ti.j4=.slice elem)(H:T elem=Z d)(hf:P.funcs[f]?=Z fn)
  {xs:cu eX} (a:oS σ x=Z xs) (hok:(xs.all λc=>aa c==d.size&&c.all bX.one)=Y) (hby:(2*aa xs+1000)*d.bytes<=2^48) (hlen:aa xs<=2^62) (I:0<d.size)
  (J:∀k x,σ.bF k=Z x->k<σ.next) (R:bX->bg->Prop)
  (hA:x.isNil≠Z U->R (.b4 (.slice W 0 0)) { σ with next:=σ.next+4 })
  (hB:x.isNil≠Z Y->∀σ1:bg,σ1.next=σ.next+7->(∀k,σ1.bF k=if k=σ.next+5 then Z (.row elem d.size xs)else σ.bF k)->R (.ms (σ.next+5) d.size 0 (aa xs)) σ1) :
  vb P f [x] σ R:=by
 let ⟨i0,i1,i2,i3,o0,o1,o2,o3,o4,o5,o6,o7,yt,hb,h0,h1,h2,h3,h4,h5,h6,h7⟩:=i.body;refine vb.DS cb hf hb (by rw[i.ntmps];simp) ?_;rw[i.ntmps];have hg0:(bl.enter 8 [x] σ).get 0=x:=by rw[bl.MV];rfl
 have K:(bl.enter 8 [x] σ).n=8:=rfl;have M:(bl.enter 8 [x] σ).st=σ:=rfl;have r:∀s:bl,pc T fn s=Z (s.get 2):=λs=>by simp[pc,i.results,uI,y3]
 have hti:∀σ id,wz T σ id t 0 []=Z (.ms id d.size 0 0,σ.set id (.row elem d.size [])):=λσ id=>by let ⟨u,nq,z2,z3,z4⟩:=ti;subst hu;simp[wz,ht,H,I,vN]
 refine nw.seq (nw.KA λs1 n1 g1 t1=>?_);refine oT.step cb rfl h0 (by simp) (by rw[n1,K];decide) (v:=.b4 (.slice W 0 0)) (σ':=s1.st) rfl λs2 k2=>oT.nil ?_;have N:s2.n=8:=by rw[k2.n,n1,K]
 have O:s2.get 0=x:=by rw[k2.other (by decide),g1,hg0]
 have Q:s2.st={ σ with next:=σ.next+1 }:=by rw[k2.st,t1,M];rfl
 refine nw.seq (nw.seq (nw.KA λs3 n3 g3 t3=>?_));refine oT.step cb rfl h1 (by simp) (by rw[n3,N];decide) (v:=x) (σ':=s3.st) (by simp only[fb,bl.eval];rw[g3,O]) λw k4=>?_;have j:w.n=8:=by rw[k4.n,n3,N]
 have S:w.get 0=x:=by rw[k4.other (by decide),g3,O]
 have B:w.st={ σ with next:=σ.next+3 }:=by rw[k4.st,t3,Q];rfl
 have rest:∀b:Bool,x.isNil≠Z (!b)->∀l:bl,l.n=8->l.get 0=x->l.get 4=.b4 (.bool b)->l.st={ σ with next:=σ.next+3 } ->
   nw P (.cond (.tmp 4) (.seq (.region i2 #[o3] U) .ret) .skip) (Cw (nw P (.seq (.region i3 #[o4,o5,o6,o7] U) .ret) (λe s'=>(e=.normal\/e=.ret)/\∃v,pc T fn s'=Z v/\R v s'.st)) (λe s'=>(e=.normal\/e=.ret)/\∃v,pc T fn s'=Z v/\R v s'.st)) l:=by
  intro b hb l n5 x5 c5 t5;refine nw.cond (t:=b) c5 ?_;cases b;refine nw.skip ?_;refine nw.seq (nw.KA λs6 n6 g6 t6=>?_);have C:s6.st={ σ with next:=σ.next+7 }:=by rw[t6,t5];rfl
  have hnx:l.st.next=σ.next+3:=by rw[t5]
  rw[hnx];refine oT.step cb rfl h4 (by simp) (by rw[n6,n5];decide) (v:=.ms (σ.next+3) d.size 0 0) (σ':=s6.st.set (σ.next+3) (.row elem d.size [])) (hti _ _) λs7 m=>?_;refine oT.step cb rfl h5 (by simp) (by rw[m.n,n6,n5];decide) (v:=x) (σ':=s7.st) (by simp only[fb,bl.eval];rw[m.other (by decide),g6,x5]) λh k8=>?_;have e5:h.get 5=.ms (σ.next+3) d.size 0 0:=by rw[k8.other (by decide),m.same]
  have e6:=k8.same;have D:h.st=s6.st.set (σ.next+3) (.row elem d.size []):=by rw[k8.st,m.st]
  have o:∀k,h.st.bF k=if k=σ.next+3 then Z (.row elem d.size [])else σ.bF k:=λk=>by rw[D,bg.x9,C];rfl
  have E:oS h.st x=Z xs:=by
   rw[<-a];unfold oS;split;rename_i id z off len;rw[o];have:id≠σ.next+3:=λe=>by simp only[oS]at a;split at a;rename_i ho;have:=J _ _ ho;omega;cases a
   rw[cc this];rfl;rfl;rfl
  have happ:qS T h.st (σ.next+5) t t (.ms (σ.next+3) d.size 0 0) x=Z (.ms (σ.next+5) d.size 0 (aa xs),(h.st.del (σ.next+3)).set (σ.next+5) (.row elem d.size xs)):=by
   let ⟨u,nq,z2,z3,z4⟩:=ti;subst hu;have htr:oF h.st (.ms (σ.next+3) d.size 0 0)=h.st:=by simp[oF,o]
   simp only[qS,htr];have G:ry h.st elem d.size (.ms (σ.next+3) d.size 0 0)=Z (Z (σ.next+3),[]):=by simp[ry,o]
   simp only[sM,ht,H,G,E];rw[cr ⟨rfl,hok,by simpa using hby,by simpa using hlen,I⟩];simp
  refine oT.step cb rfl h6 (by simp) (by rw[k8.n,m.n,n6,n5];decide) (v:=.ms (σ.next+5) d.size 0 (aa xs)) (σ':=(h.st.del (σ.next+3)).set (σ.next+5) (.row elem d.size xs)) (by
   simp only[fb,aD,bl.eval,e5,e6];exact happ) λs9 k9=>?_
  refine oT.step cb rfl h7 (by simp) (by rw[k9.n,k8.n,m.n,n6,n5];decide) (v:=.ms (σ.next+5) d.size 0 (aa xs)) (σ':=s9.st) (by simp only[fb,bl.eval];rw[k9.same]) λs10 k10=>oT.nil ?_;refine nw.ret ?_;refine⟨.inr rfl,_,r _,?_⟩;rw[k10.same,k10.st,k9.st];refine hB hb _ ?_ (λk=>?_);show h.st.next=_;rw[D,bg.PX,C];rw[bg.x9,bg.rK,o];by_cases q:k=σ.next+5;simp[q];by_cases gb:k=σ.next+3;rw[cr gb];cases hk:σ.bF k with
  |none=>rfl
  |some y=>have:=J _ _ hk;omega
  rw[cc gb,cc gb];refine nw.seq (nw.KA λs6 n6 g6 t6=>?_);refine oT.step cb rfl h3 (by simp) (by rw[n6,n5];decide) (v:=.b4 (.slice W 0 0)) (σ':=s6.st) rfl λs7 m=>oT.nil ?_;refine nw.ret ?_;refine⟨.inr rfl,_,r _,?_⟩;rw[m.same,m.st,t6,t5];exact hA hb
 have hev:w.eval (.tmp 3)=x:=k4.same;cases g:x.isNil with
 |some b=>
  refine oT.step cb rfl h2 (by simp) (by rw[j];decide) (v:=.b4 (.bool b)) (σ':=w.st) (by
   let ⟨u,nq,z2,z3,z4⟩:=ti;subst hu;simp only[fb,AY];rw[hev];simp[q7,bl.eval,bX.ofValue,ht,g]) λl p=>oT.nil ?_
  exact rest b (by rw[g];cases b<;>simp) l (by rw[p.n,j]) (by rw[p.other (by decide),S]) p.same (by rw[p.st,B])
 |none=>
  refine oT.bo3 cb rfl h2 (by rw[j];decide) ht hu (by
   rw[hev];unfold oS at a;split at a;exact .inr ⟨_,_,_,_,rfl⟩;exact .inl ⟨_,rfl⟩;simp[bX.isNil]at g;cases a) λb=>oT.nil ?_
  have p:Step w 4 (.b4 (.bool b)) w.st (w.put (Z 4) (.b4 (.bool b))):=⟨by simp,λt=>bl.I2 _ _ _ _,by simp⟩;exact rest b (by rw[g];simp) _ (by rw[p.n,j]) (by rw[p.other (by decide),S]) p.same (by rw[p.st,B])
def cd9{xs:cu eX}(a:oS σ x=Z xs)(b:x.isNil≠Z U):xs=[]:=by unfold oS at a;split at a;rename_i id z off len;split at a;split at a;cases a;cases len;simp;simp[bX.isNil]at b;cases a;cases a;cases a;cases xs;rfl;simp[bX.isNil]at b;cases a;rfl;cases a
def ca4  {T:bY} (cb:rk P T)  {fn:Func}  (hf:P.funcs[f]?=Z fn) (a:(fn.name== "runtime.NumGoroutine")=U) (d:QC fn t)   
  (h:K6 T t args σ=Z (v,σ')):oO P f args σ (λE m=>E=v/\m=σ')/\qb σ σ':=by
 have b:fn.body.isNone=U:=by let ⟨_,_,_,_,_,_,_,_,_,_,_,_,_,H,_⟩:=d.body;simp[H]
 unfold K6 at h;split at h;split at h;rename_i elem nq z2 z3 z4 B;split at h;rename_i j o;split at h;rename_i xs c;split at h;rename_i hc;let ⟨p,q,hlen,r⟩:=hc;split at h;rename_i s;cases h;refine⟨oO.Cc hf a b (vb.ay8 λg=>?_),⟨ay _,λ_ _=>rfl⟩⟩;refine(X_ cb d B rfl o hf c p q hlen r g (λv σ1=>v=.b4 (.slice W 0 0)/\σ1={ σ with next:=σ.next+4 }) (λ_=>⟨rfl,rfl⟩) (b8 s ·)).weaken ?_;rintro v σ1 ⟨rfl,rfl⟩;exact⟨_,⟨rfl,rfl⟩,by simp,λ_ _ h=>h⟩;cases h;refine⟨oO.Cc hf a b (vb.ay8 λg=>?_),?_⟩;have key:=X_ cb d B rfl o hf c p q hlen r g (λv σ1=>(xs=[]/\v=.b4 (.slice W 0 0)/\σ1={ σ with next:=σ.next+4 })\/(v=.ms (σ.next+5) j.size 0 (aa xs)/\σ1.next=σ.next+7/\∀k,σ1.bF k=if k=σ.next+5 then Z (.row elem j.size xs)else σ.bF k))
  (λI=>.inl ⟨cd9 c I,rfl,rfl⟩) (λ_ σ1 h1 h2=>.inr ⟨rfl,h1,h2⟩)
 intro G vs w h1 h2;refine(key G vs w h1 h2).mono ?_;rintro e w' ⟨v,M,σ1,G',rfl,l,C,u,x⟩;rcases x with⟨rfl,rfl,rfl⟩|⟨rfl,x,J⟩
 cases C;have hid:G'.pl (σ.next+5)=W:=u.fresh _ (by simp);have z:=u.next (n:=σ.next+7) (by simp);refine⟨_,_,_,G'.place (σ.next+5) { block:=0,size:=0,cap:=0,mX:=Y },rfl,⟨l.le.trans (ca.Cf hid),λi a7 K=>?_,by simp,l.bb.trans ?_⟩,.oh (σ.next+5) j.size _ (ca.sc _ _ _) rfl,z.mX (σ.next+5) hid (by simp) _ rfl elem j.size,rfl,rfl⟩;have:=l.keeps i a7 K;simp only[ca.place];rw[cc (by omega)];exact this;exact(Fr.less (σ:={ σ with next:=σ.next+4 }) (σ':={ σ with next:=σ.next+7 }) (λ_ _ h=>h)).trans (Fr.mX _ _ rfl _);have hle:∀k y,({ σ with next:=σ.next+7 }.set (σ.next+5) (.row elem j.size xs):bg).bF k=Z y->σ1.bF k=Z y:=λk y D=>by rw[J];rw[bg.x9]at D;exact D
 exact⟨_,_,_,G',rfl,⟨l.le,l.keeps,by simp,l.bb.trans (Fr.less hle)⟩,C,u.less (by rw[x];rfl) hle,rfl,rfl⟩;have:=qb.set { σ with next:=σ.next+7 } (σ.next+5) (.row elem j.size xs);exact this;cases h;cases h;cases h;cases h;cases h
open Go.RowKit
def ca.tv(w:World):ca:={ qs:=w,lo:=λb=>w.heap[b]?,pl:=λ_=>W }
def QL(w:World):Prop:=∀b o v,nO.cell b o=Z v->(ca.tv w).cell b o=Z v
def Rel.tv{w:World}(a:QL w):Rel (ca.tv w) bg.none w :=⟨rfl,rfl,rfl,ay _,λ_ _ h=>h,λ_ _=>rfl,(λid o h=>by rw[bg.sZ]at h;cases h),(λi j oi oj pi pj h=>by rw[bg.sZ]at h;cases h),a⟩
def IE{w:World}{a:Addr}{v:Value}(h:w.cell? a=Z v):a.spot=W/\(ca.tv w).cell a.block a.off=Z v:=by unfold im at h;split at h;rename_i c t bb b;split at h;cases h;rename_i hs;refine⟨by cases hsp:a.spot with|none=>rfl|some x=>simp[hsp]at hs,?_⟩;show(match w.heap[a.block]? with|some (.cells cs _ _)=>cs[a.off]?|_=>W)=_;rw[b];exact h;cases h
def oX.calls  {m:Ug} {fn:Func} (r:P.funcs[m.f]?=Z fn) (g:(fn.name== "runtime.NumGoroutine")=U) (i:fn.body.isNone=U) (h:oX P m)
    {w:World} (j:hE G m.args vs) (d:Rel G bg.none w) :
  Calls P m.f vs.toArray w λe w'=>∃v G',e=.returned v/\eR G' m.c v/\G.le G'/\Rel G' bg.none w'/\Below w.heap.size w w':=by
 have key:=h bg.none G vs w j d ⟨Z 0,.move (.const undef),0, "",#[],W⟩ ⟨#[undef],[]⟩
  (λa w'=>∃v G',a.tmps[0]?=Z v/\eR G' m.c v/\G.le G'/\Rel G' bg.none w'/\Below w.heap.size w w') (λ_ _ _=>False) (by
   rintro u t σ' G' w' n s b ⟨rfl,rfl⟩;refine⟨u,G',by simp[jx],s,n.le,b,?_⟩;have hle:=n.le.qs;exact⟨b.os.trans ((Ar World.os hle).trans d.os.symm),b.tape.trans ((Ar World.tape hle).trans d.tape.symm),b.output.trans ((Ar World.output hle).trans d.output.symm),
    n.bb.size,λk hk=>n.bb.same k hk (λid o p q=>by rw[bg.sZ]at q;cases q)⟩)
 have l:(callFunc m.f vs.toArray).run P w=.ok (.enter m.f vs.toArray) w:=by simp only[callFunc,ax,run_program,ao,r,g,i,aF,l4,bd]
 rw[l]at key;refine me key ?_;intro e w' he;cases e with
 |returned v=>
  let ⟨u,G',h1,h2⟩:=he;have:u=v:=by simpa[jx]using h1.symm
  subst this;exact⟨u,G',rfl,h2⟩
 |panicked c=>exact he.elim
 |outgrown=>let ⟨a,qs,q⟩:=he;exact q.elim
inductive pU (P:Program) (N:Nat):TypeId->List bX->Prop
 |bool {t:TypeId} (b:Bool) (h:P.underlying t=Z .bool):pU P N t [.b4 (.bool b)]
 |int {t:TypeId} {k:IntKind} {n:Int} (h:P.underlying t=Z (.int k)) (hw:(Lit.int k n).wf=Y):pU P N t [.b4 (.int k n)]
 |str {t:TypeId} {s:ByteArray} (h:P.underlying t=Z .string) (hl:s.size<=N):pU P N t [.b4 (.string s)]
 |slice {t e:TypeId} {es:List (List bX)} (h:P.underlying t=Z (.slice e)) (hl:aa es<=N) (hes:∀c∈es,pU P N e c):pU P N t [.rs es]
 |struct {t:TypeId} {fs:Array Field} {avs:List bX} (h:P.underlying t=Z (.struct fs)) (hl:aa avs=P.cellsOf t)
   (hf:∀f∈fs.toList,pU P N f.type ((avs.drop f.offset).take (P.cellsOf f.type))):pU P N t avs
def uH(P:Program):cu Field->Nat->Nat->Bool
 | [],o,total=>aw o total
 |f::fs,o,total=>aw f.offset o&&uH P fs (o+P.cellsOf f.type) total
def BU(P:Program):Nat->TypeId->Bool
 | 0,_=>U
 |n+1,t=>match P.underlying t with
  |some .bool=>Y
  |some (.int _)=>Y
  |some .string=>Y
  |some (.slice e)=>BU P n e&&(dI 1 (P.cellsOf e)&&dI 1 (P.bytesOf e))
  |some (.struct fs)=>uH P fs.toList 0 (P.cellsOf t)&&fs.toList.all λf=>BU P n f.type
  |_=>U
section
variable {H:Type} {enc:TypeId×Value->H} {P:Program} {N:Nat} {w:World}
def hE.PU(G:ca)(v:Value):hE G [.b4 v] [v]:=.cons (.b4 v) (.nil G)
def X9{cs:cu Value}(xO:Field->Prop)(a:∀f,xO f->∃avs,hE G avs ((cs.drop f.offset).take (P.cellsOf f.type))/\pU P N f.type avs/\f.offset+P.cellsOf f.type<=aa cs) :
  ∀(fs:cu Field) (o:Nat),(∀f∈fs,xO f)->uH P fs o (aa cs)=Y->o<=aa cs ->
   ∃avs,hE G avs (cs.drop o)/\∀f∈fs,o<=f.offset/\pU P N f.type ((avs.drop (f.offset-o)).take (P.cellsOf f.type))
 | [],o,_,d,_=>by have:=ae d;subst this;exact⟨[],by simpa using hE.nil G,λf hf=>by cases hf⟩
 |f::fs,o,h,d,hle=>by
  simp only[uH,ab]at d;have ho:=ae d.1;let ⟨avs,h1,h2,i⟩:=a f (h f (by simp));rw[ho]at h1 i;let ⟨c,j,k⟩:=X9 xO a fs (o+P.cellsOf f.type) (λg b=>h g (by simp[b])) d.2 i;have hl:aa avs=P.cellsOf f.type:=by rw[<-h1.1];simp;omega
  refine⟨avs++c,?_,?_⟩;have e:cs.drop o=(cs.drop o).take (P.cellsOf f.type)++cs.drop (o+P.cellsOf f.type):=by rw[<-gD,dJ]
  rw[e];exact h1.append j;intro g b;rcases aG.1 b with rfl|b
  refine⟨by omega,?_⟩;rw[ho,lZ,lD,List.take_append_of_le_length (by omega),List.take_of_length_le (by omega)];exact h2;let ⟨m,l⟩:=k g b;refine⟨by omega,?_⟩;have:(avs++c).drop (g.offset-o)=c.drop (g.offset-(o+P.cellsOf f.type)):=by rw[iK,List.drop_eq_nil_of_le (by omega),hl];simp only[br];congr 1;omega
  rw[this];exact l
theorem au0{G:ca}(Q:Nat->eX->Prop):∀(n:Nat),(∀i,i<n->∃avs,Q i avs)->∃es:cu eX,aa es=n/\∀i (h:i<aa es),Q i es[i]
 | 0,_=>⟨[],rfl,λi h=>by simp at h⟩
 |n+1,a=>by
  let ⟨es,h1,h2⟩:=au0 (G:=G) Q n (λi a7=>a i (by omega));let ⟨avs,b⟩:=a n (by omega);refine⟨es++[avs],by simp[h1],λi a7=>?_⟩;by_cases e:i<aa es;rw[jv e];exact h2 i e;have:i=n:=by simp at a7;omega
  subst this;simpa[h1]using b
def VK{d:DataW H}(a:n∈d.weights P e):∀ {l:cu (DataW H)},d∈l->n∈iF P e l
 | [],h=>by cases h
 |x::l,h=>by
  rcases aG.1 h with rfl|h
  exact dz _ a;exact ic _ (VK a h)
def MF:∀ {ts:cu TypeId} {l:cu (DataW H)} (i:Nat) {t:TypeId} {d:DataW H},ts[i]?=Z t->l[i]?=Z d->n∈d.weights P t->n∈gi P ts l
 | [],_,i,t,d,h,_,_=>by simp at h
 |_::_,[],i,t,d,_,h,_=>by simp at h
 |b::ts,c::l,0,t,d,h1,h2,a=>by simp only[ch,ah]at h1 h2;subst h1 h2;unfold gi;exact dz _ a
 |b::ts,c::l,i+1,t,d,h1,h2,a=>by simp only[aK]at h1 h2;unfold gi;exact ic _ (MF i h1 h2 a)
theorem O0:∀(d:Nat) (t:TypeId),BU P d t=Y->∀(fuel:Nat) (cs:List Value) (x:DataW H×List MemPlace),DataW.trod enc P w 0 (λ_=>Y) Y fuel t cs=Z x->(∀n∈x.1.weights P t,n<=N) ->
  ∃avs,hE (ca.tv w) avs cs/\pU P N t avs
 | 0,t,hp,_,_,_,_,_=>by simp[BU]at hp
 |d+1,t,hp,fuel,cs,x,h,O=>by
  unfold BU at hp;split at hp;rename_i r;obtain⟨b,rfl,_⟩:=DataW.trod_bool r h;exact⟨_,.PU _ _,.bool b r⟩;rename_i k r;obtain⟨n,rfl,_,hw⟩:=DataW.trod_int r h;exact⟨_,.PU _ _,.int r hw⟩;rename_i r;obtain⟨s,rfl,ex,_⟩:=DataW.trod_string r h;subst ex;exact⟨_,.PU _ _,.str r (O s.size (by
   exact List.mem_singleton.2 rfl))⟩
  rename_i e r;rw[ab]at hp;rw[ab]at hp;have hpos:=a_ hp.2.1;have Q:=a_ hp.2.2;rcases Go.Deep.open_slice r h with⟨rfl,_⟩|⟨a,len,cap,m,n,D,nt,rfl,_,hlc,hcm,hm,ex,R⟩
  exact⟨[.rs []],.cons .q9 (.nil _),.slice r (by simp) (λc hc=>by cases hc)⟩;simp only[vE]at hm;subst ex;have ew:ie P t (.slice ((aT len).map D) ((aT (m-len)).map λj=>D (len+j)):DataW H)=((aT len).map D).length.add (aa ((aT (m-len)).map λj=>D (len+j)))*P.bytesOf e::(iF P e ((aT len).map D)++iF P e ((aT (m-len)).map λj=>D (len+j))):=by rw[ie,r];rfl
  rw[ew]at O;have hlen:len<=N:=by have h1:=O _ (List.mem_cons_self ..);rw[aI,aI,dO,dO]at h1;have h2:len*1<=(len.add (m-len))*P.bytesOf e:=Nat.mul_le_mul (aZ len _) Q;omega
  have hND:=λi a7 q hq =>O q (bC _ (dz _ (VK hq (aN.2 ⟨i,List.mem_range.2 a7,rfl⟩))));have S:∀i,i<len->∃avs,∃p,w.cells? 0 (a.add (i*P.cellsOf e)) (P.cellsOf e)=Z p/\hE (ca.tv w) avs p/\pU P N e avs:=λi a7=>by obtain⟨p,h1,h2⟩:=R i (by omega);obtain⟨avs,E,C⟩:=O0 d e hp.1 _ _ _ h2 (hND i a7);exact⟨avs,p,h1,E,C⟩
  obtain⟨es,hes1,B⟩:=au0 (G:=ca.tv w) (λi avs=>∃p,w.cells? 0 (a.add (i*P.cellsOf e)) (P.cellsOf e)=Z p/\hE (ca.tv w) avs p/\pU P N e avs) len S;have u:cap≠0->a.spot=W:=λhc=>by obtain⟨p,h1,_⟩:=R 0 (by omega);obtain⟨_,h2,E⟩:=gj h1;have C:=E 0 (by omega);rw[af (by omega)]at C;simp at C;exact(IE C).1
  refine⟨[.rs es],.cons ?_ (.nil _),.slice r (by omega) (λc hc=>?_)⟩;rw[<-hes1];refine .rs es a cap (P.cellsOf e) (λi j=>(w.cell? ⟨a.block,a.off+i*P.cellsOf e+j,W⟩).getD undef) u (by omega) (λi a7=>?_) (λi j a7 hj=>?_) (λi j a7 hj=>?_);obtain⟨p,h1,h2,_⟩:=B i a7;obtain⟨_,E,_⟩:=gj h1;have:=h2.1;omega;obtain⟨p,h1,h2,_⟩:=B i a7;obtain⟨_,E,C⟩:=gj h1;have I:=C j hj;rw[af (by omega)]at I;have hs:=u (by omega);obtain⟨b,o,sp⟩:=a;subst hs;rw[tL,tL]at I;rw[I];exact(IE I).2;obtain⟨p,h1,h2,_⟩:=B i a7;obtain⟨_,E,C⟩:=gj h1;have hl:=h2.1;have I:=C j (by omega);rw[af (by omega)]at I;have hs:=u (by omega);obtain⟨b,o,sp⟩:=a;subst hs;rw[tL,tL]at I;rw[I];exact h2.2 j hj (by omega);obtain⟨i,a7,rfl⟩:=bk hc;obtain⟨_,_,_,E⟩:=B i a7;exact E;rename_i fs r;rw[ab]at hp;obtain⟨xs,n,rfl,ex,hlen,hxl,hf⟩:=DataW.trod_struct r h;subst ex;have ew:ie P t (.agg (xs.map (·.1)):DataW H)=gi P (fs.toList.map (·.type)) (xs.map (·.1)):=by rw[ie,r]
  rw[ew]at O;have v:=hp.1;rw[<-hlen]at v;have J:∀f,f∈fs.toList->∃avs,hE (ca.tv w) avs ((cs.drop f.offset).take (P.cellsOf f.type))/\pU P N f.type avs:=λf z=>by
   obtain⟨i,a7,rfl⟩:=bk z;have h1:=hf i (fs.toList[i]) (by simp);rw[af (by simp at a7;omega)]at h1;have hi2:i<aa xs:=by simp at a7;omega
   exact O0 d _ (aj.1 hp.2 _ z) _ _ _ h1 (λq hq=>O q (MF i (t:=fs.toList[i].type) (d:=(xs[i]'hi2).1) (by rw[aS,af a7];rfl) (by rw[aS,af hi2];rfl) hq))
  have K:∀(l:List Field) (o:Nat),uH P l o (aa cs)=Y->∀f∈l,f.offset+P.cellsOf f.type<=aa cs:=by
   have M:∀(l:List Field) (o:Nat),uH P l o (aa cs)=Y->o<=aa cs:=by
    intro l
    induction l with
    |nil=>intro o ho;exact Nat.le_of_eq (ae ho)
    |cons g l S=>intro o ho;simp only[uH,ab]at ho;have:=S _ ho.2;omega
   intro l
   induction l with
   |nil=>intro o _ f hf;cases hf
   |cons g l S=>
    intro o ho f hf;simp only[uH,ab]at ho;rcases aG.1 hf with rfl|hf
    have:=M _ _ ho.2;rw[ae ho.1];exact this;exact S _ ho.2 f hf
  obtain⟨avs,h1,h2⟩:=X9 (P:=P) (G:=ca.tv w) (cs:=cs) (·∈fs.toList)
   (λf z=>by obtain⟨avs,a1,a2⟩:=J f z;exact⟨avs,a1,a2,K _ _ v f z⟩) fs.toList 0 (λ_ h=>h) v (di _)
  refine⟨avs,h1,.struct r (by rw[<-h1.1];exact hlen) (λf z=>?_)⟩;have:=(h2 f z).2;simpa using this;cases hp
end
def pU.bl3(a:P.underlying t=Z (.int k))(h:pU P N t avs):∃n,avs=[.b4 (.int k n)]/\(Lit.int k n).wf=Y:=by
 cases h with
 |int h hw=>rw[a]at h;cases h;exact⟨_,rfl,hw⟩
 |bool b h=>rw[a]at h;cases h
 |str h=>rw[a]at h;cases h
 |slice h=>rw[a]at h;cases h
 |struct h=>rw[a]at h;cases h
def pU.bM5(a:P.underlying t=Z (.slice e))(h:pU P N t avs):∃es,avs=[.rs es]/\aa es<=N/\∀c∈es,pU P N e c:=by
 cases h with
 |int h hw=>rw[a]at h;cases h
 |bool b h=>rw[a]at h;cases h
 |str h=>rw[a]at h;cases h
 |slice h hl hes=>rw[a]at h;cases h;exact⟨_,rfl,hl,hes⟩
 |struct h=>rw[a]at h;cases h
def pU.bO5(a:P.underlying t=Z .string)(h:pU P N t avs):∃s,avs=[.b4 (.string s)]/\s.size<=N:=by
 cases h with
 |int h hw=>rw[a]at h;cases h
 |bool b h=>rw[a]at h;cases h
 |str h hl=>exact⟨_,rfl,hl⟩
 |slice h=>rw[a]at h;cases h
 |struct h=>rw[a]at h;cases h
def pU.bO6{fs:Array Field}(a:P.underlying t=Z (.struct fs))(h:pU P N t avs) :
  aa avs=P.cellsOf t/\∀f∈fs.toList,pU P N f.type ((avs.drop f.offset).take (P.cellsOf f.type)):=by
 cases h with
 |int h hw=>rw[a]at h;cases h
 |bool b h=>rw[a]at h;cases h
 |str h=>rw[a]at h;cases h
 |slice h=>rw[a]at h;cases h
 |struct h hl hf=>rw[a]at h;cases h;exact⟨hl,hf⟩
end Go.Ab
namespace Go.Ab
open Go
variable [nO]
variable {α β:Type}
def rowsOf:bX->cu eX
 | .rs es=>es
 |_=>[]
def nm:bX->Nat
 | .b4 (.int _ n)=>n.toNat
 |_=>0
mutual
def bX.sub(θ:Nat->bX):bX->bX
 | .any=>.any
 | .b4 v=>.b4 v
 | .rs es=>.rs (o8 θ es)
 | .fT cs=>.fT (ni θ cs)
 | .ms id size off len=>.ms id size off len
 | .mp id i j=>.mp id i j
 | .mm id=>.mm id
 | .it id=>.it id
 | .fn f a c=>.fn f (ni θ a) (ni θ c)
 | .agg cs=>.agg (ni θ cs)
 | .ed vs=>.ed (ni θ vs)
 | .ey i=>θ i
 | .c8 id size i=>.ms id size 0 (aa (rowsOf (θ i)))
 | .l3 id k off=>.mp id (nm (θ k)) off
 | .mY c=>.mY (c.sub θ)
def ni(θ:Nat->bX):eX->eX
 | []=>[]
 |c::cs=>c.sub θ::ni θ cs
def o8(θ:Nat->bX):cu eX->cu eX
 | []=>[]
 |c::cs=>ni θ c::o8 θ cs
end
variable {v:bX}
def pT(θ:Nat->bX):∀l,ni θ l=l.map (bX.sub θ)
 | []=>by simp[ni]
 |c::cs=>by simp[ni,pT θ cs]
def vQ(θ:Nat->bX):∀l,o8 θ l=l.map (cD (bX.sub θ))
 | []=>by simp[o8]
 |c::cs=>by simp[o8,pT,vQ θ cs]
section
variable (θ:Nat->bX)
@[simp] theorem aV0:bX.sub θ .any=.any:=by simp[bX.sub]
@[simp] theorem pN (v:Value):bX.sub θ (.b4 v)=.b4 v:=by simp[bX.sub]
@[simp] theorem yQ (es:cu eX):bX.sub θ (.rs es)=.rs (es.map (cD (bX.sub θ))):=by simp[bX.sub,vQ]
@[simp] theorem R3 (cs:eX):bX.sub θ (.fT cs)=.fT (cs.map (bX.sub θ)):=by simp[bX.sub,pT]
@[simp] theorem xL (id size off len:Nat):bX.sub θ (.ms id size off len)=.ms id size off len:=by simp[bX.sub]
@[simp] theorem KH (id i j:Nat):bX.sub θ (.mp id i j)=.mp id i j:=by simp[bX.sub]
@[simp] theorem B6 (id:Nat):bX.sub θ (.mm id)=.mm id:=by simp[bX.sub]
@[simp] theorem Lg (id:Nat):bX.sub θ (.it id)=.it id:=by simp[bX.sub]
@[simp] theorem QP (f:Fn) (a c:eX):bX.sub θ (.fn f a c)=.fn f (a.map (bX.sub θ)) (c.map (bX.sub θ)):=by simp[bX.sub,pT]
@[simp] theorem BW (cs:eX):bX.sub θ (.agg cs)=.agg (cs.map (bX.sub θ)):=by simp[bX.sub,pT]
@[simp] theorem Kb (cs:eX):bX.sub θ (.ed cs)=.ed (cs.map (bX.sub θ)):=by simp[bX.sub,pT]
@[simp] theorem vl (i:Nat):bX.sub θ (.ey i)=θ i:=by simp[bX.sub]
@[simp] theorem rA (id size i:Nat):bX.sub θ (.c8 id size i)=.ms id size 0 (aa (rowsOf (θ i))):=by simp[bX.sub]
@[simp] theorem B4 (θ:Nat->bX) (c:bX):(bX.mY c).sub θ=.mY (c.sub θ):=by simp only[bX.sub]
@[simp] theorem cg0 (θ:Nat->bX) (id k off:Nat):(bX.l3 id k off).sub θ=.mp id (nm (θ k)) off:=by simp only[bX.sub]
end
mutual
def bX.kl:bX->Bool
 | .b4 _=>Y
 | .rs es=>sB es
 | .fT cs=>sa cs
 | .mY c=>c.kl
 | .fn _ a c=>sa a&&sa c
 | .agg cs=>sa cs
 | .ed cs=>sa cs
 |_=>U
def sa:eX->Bool
 | []=>Y
 |c::cs=>c.kl&&sa cs
def sB:cu eX->Bool
 | []=>Y
 |c::cs=>sa c&&sB cs
end
def uv:∀l,sa l=l.all bX.kl
 | []=>by simp[sa]
 |c::cs=>by simp[sa,uv cs]
def DL:∀l,sB l=l.all (List.all · bX.kl)
 | []=>by simp[sB]
 |c::cs=>by simp[sB,DL cs,uv]
def rY{es:cu eX}(h:(bX.rs es).kl=Y):∀i (h:i<aa es) j (h':j<es[i].length),(es[i][j]).kl=Y:=λi a7 j hj=>by
 simp only[bX.kl,DL]at h
 grind[ au]
def rr{G G':ca}(m:∀b o,G.lo b=Z o->G'.lo b=Z o){u:Value}(n:eR G v u):v.kl=Y->eR G' v u:=by
 have d:∀ {b o:Nat} {v:Value},G.cell b o=Z v->G'.cell b o=Z v:=λ{b o v} hc=>by grind[ca.cell]
 induction n with
 |any v=>intro h;simp[bX.kl]at h
 |b4 v=>intro _;exact .b4 v
 |q9=>intro _;exact .q9
 |rs es a cap size val hs hc hlen himm _ e =>intro h;exact .rs es a cap size val hs hc hlen (λi j h1 h2=>d (himm i j h1 h2)) (λi j a7 hj=>e i j a7 hj (rY h i a7 j hj))
 |fT cs a val hs himm _ e =>intro h;simp only[bX.kl,uv]at h;exact .fT cs a val hs (λj hj=>d (himm j hj)) (λj hj=>e j hj (aj.1 h _ (au hj)))
 |ms=>intro h;simp[bX.kl]at h
 |oh=>intro h;simp[bX.kl]at h
 |mp=>intro h;simp[bX.kl]at h
 |mm=>intro h;simp[bX.kl]at h
 |it=>intro h;simp[bX.kl]at h
 |mY rows b ents himm hlen uX _ e =>intro h;refine .mY rows b ents (m _ _ himm) hlen uX (λi a7 c=>e i a7 c ?_);have g:=rY (es:=rows) (by simp only[bX.kl];exact h) i a7;generalize rows[i]=r at g;unfold oW;split;exact g 1 (by simp);simp[bX.kl]
 |fn f first cap fv cv h1 h2 _ _ k l =>intro h;simp only[bX.kl,uv,ab]at h;exact .fn f first cap fv cv h1 h2 (λi a7 c=>k i a7 c (aj.1 h.1 _ (au a7))) (λi a7 c=>l i a7 c (aj.1 h.2 _ (au a7)))
 |agg cs vs h1 _ e =>intro h;simp only[bX.kl,uv]at h;exact .agg cs vs h1 (λi a7 c=>e i a7 c (aj.1 h _ (au a7)))
 |ed cs vs h1 _ e =>intro h;simp only[bX.kl,uv]at h;exact .ed cs vs h1 (λi a7 c=>e i a7 c (aj.1 h _ (au a7)))
def nN:bX->Prop
 | .b4 (.int _ _)=>True
 | .b4 (.bool _)=>True
 | .b4 (.string _)=>True
 | .rs es=>(bX.rs es).kl=Y
 | .fT cs=>(bX.fT cs).kl=Y
 | .mY c=>(bX.mY c).kl=Y
 |_=>False
def Fit(θ:Nat->bX):Prop:=∀i,nN (θ i)
def nN.cases(h:nN v):(∃k n,v=.b4 (.int k n))\/(∃b,v=.b4 (.bool b))\/(∃s,v=.b4 (.string s))\/(∃es,v=.rs es)\/(∃cs,v=.fT cs)\/∃c,v=.mY c:=by
 unfold nN at h
 grind
def nN.kl(h:nN v):v.kl=Y:=by unfold nN at h;split at h;rfl;rfl;rfl;exact h;exact h;exact h;cases h
def nN.cells(h:nN v):v.cells=Z [v]:=by rcases h.cases with⟨k,n,rfl⟩|⟨b,rfl⟩|⟨s,rfl⟩|⟨es,rfl⟩|⟨cs,rfl⟩|⟨c,rfl⟩<;>rfl
def nN.one(h:nN v):v.one=Y:=by rcases h.cases with⟨k,n,rfl⟩|⟨b,rfl⟩|⟨s,rfl⟩|⟨es,rfl⟩|⟨cs,rfl⟩|⟨c,rfl⟩<;>rfl
def nN.v7(h:nN v):v.v7=[]:=by rcases h.cases with⟨k,n,rfl⟩|⟨b,rfl⟩|⟨s,rfl⟩|⟨es,rfl⟩|⟨cs,rfl⟩|⟨c,rfl⟩<;>rfl
section
variable {θ:Nat->bX} (hθ:Fit θ)
include hθ
theorem Jp{cs:eX}(h:v.cells=Z cs):(v.sub θ).cells=Z (cs.map (bX.sub θ)):=by
 cases v with
 |ey i=>simp only[bX.cells,ah]at h;subst h;simpa using(hθ i).cells
 |c8 id size i=>simp only[bX.cells,ah]at h;subst h;simp[bX.cells]
 |b4 v=>cases v<;>simp[bX.cells]at h<;>subst h<;>simp[bX.cells]
 |any=>simp[bX.cells]at h
 |ed l=>simp[bX.cells]at h
 |_=>simp only[bX.cells,ah]at h;subst h;simp[bX.cells]
theorem one_sub(h:v.one=Y):(v.sub θ).one=Y:=by
 cases v with
 |ey i=>simpa using(hθ i).one
 |c8 id size i=>simp[bX.one]
 |b4 v=>cases v<;>simp[bX.one]at h<;>simp[bX.one]
 |any=>simp[bX.one]at h
 |ed l=>simp[bX.one]at h
 |agg l=>simp[bX.one]at h
 |_=>simp[bX.one]
end
def ef.map{α β:Type}(f:α->β):ef α->ef β
 | .leaf=>.leaf
 | .node v l r=>.node (v.map f) (l.map f) (r.map f)
def ef.sY(f:α->β):∀(t:ef α) (k:Nat),(t.map f).get k=(t.get k).map f
 | .leaf,k=>by simp[ef.map,ef.uF]
 | .node v l r,k=>by cases k;simp[ef.map,ef.get];rename_i k;simp only[ef.map,ef.get];split;exact ef.sY f l _;exact ef.sY f r _
def ef.Oi(g:α->β)(v:dv α):∀(f k:Nat) (t:ef α),(ef.qf v f k t).map g=ef.qf (v.map g) f k (t.map g)
 | 0,k,t=>by cases k<;>cases t<;>simp[ef.qf,ef.map]
 |f+1,0,t=>by cases t<;>simp[ef.qf,ef.map]
 |f+1,k+1,.leaf=>by simp only[ef.qf,ef.map];split<;>simp[ef.map,ef.Oi g v f (k / 2) .leaf]
 |f+1,k+1,.node x l r=>by simp only[ef.qf,ef.map];split<;>simp[ef.map,ef.Oi g v f (k / 2)]
def ef.map_set(g:α->β)(t:ef α)(k:Nat)(v:dv α):(t.set k v).map g=(t.map g).set k (v.map g):=ef.Oi g v k k t
def qY(c:bX):c7:=.map (rZ (rowsOf c)) (nT 0 (rowsOf c)) (aa (rowsOf c))
abbrev tY:Nat:=1048576
def hid(r c:Nat):Nat:=(16*r+c)%tY
abbrev nW:=cu (Nat×TypeId×Nat)
def pw(ck:nW)(j:Nat):dv (Nat×TypeId×Nat):=ck.find? (aw ·.1 j)
def zW(ck:nW)(j:Nat)(v:bX):bX:=match pw ck j with
 |some _=>.rs []
 |none=>v
def rp(ck:nW):Nat->eX->eX
 |_,[]=>[]
 |j,v::vs=>zW ck j v::rp ck (j+1) vs
def isNil:bX->Bool
 | .b4 (.slice W 0 0)=>Y
 |_=>U
def A5(ck:nW)(rows:cu eX):Bool:=No (16*aa rows<=tY)&&ck.all (Nat.blt ·.1 16)&&rows.all λr=>ck.all λc=>match r[c.1]? with
 |some v=>isNil v
 |none=>U
def wO(ck:cu (Nat×TypeId×Nat))(r j:Nat)(v:bX):bX:=match ck.find? (aw ·.1 j)with
 |some c=>.ms (hid r j) c.2.2 0 (aa (rowsOf v))
 |none=>v
def tj(ck:cu (Nat×TypeId×Nat))(r:Nat):Nat->eX->eX
 |_,[]=>[]
 |j,v::vs=>wO ck r j v::tj ck r (j+1) vs
def pd(ck:cu (Nat×TypeId×Nat)):Nat->cu eX->cu eX
 |_,[]=>[]
 |r,x::xs=>tj ck r 0 x::pd ck (r+1) xs
def ur(rows:cu eX)(i off:Nat):dv bX->cu eX
 |none=>rows
 |some v=>match rows[i]? with
  |some cs=>rows.set i (cs.set off v)
  |none=>rows
def strOf:bX->ByteArray
 | .b4 (.string s)=>s
 |_=>ByteArray.empty
def c7.sub(θ:Nat->bX):c7->c7
 | .row e s es=>.row e s (es.map (cD (bX.sub θ)))
 | .map agg es c=>.map agg (es.map λe=>(e.1,e.2.1.sub θ,e.2.2)) c
 | .qO s p=>.qO s p
 | .tq m a b c=>.tq m a b c
 | .fN e s i=>.row e s (rowsOf (θ i))
 | .nC c=>qY (c.sub θ)
 | .qh s p=>.qO (strOf (s.sub θ)) (nm (p.sub θ))
 | .nH e z c ck k off v=>.row e z (ur (pd ck 0 (rowsOf (c.sub θ))) (nm (k.sub θ)) off (v.map (bX.sub θ)))
def bg.sub(θ:Nat->bX)(σ:bg):bg:={ next:=σ.next,mZ:=σ.mZ.map (c7.sub θ),low:=σ.low }
def bg.x3(θ:Nat->bX)(σ:bg)(id:Nat):(σ.sub θ).bF id=(σ.bF id).map (c7.sub θ):=ef.sY _ _ _
def bg.pQ(θ:Nat->bX)(σ:bg)(id:Nat)(o:c7):(σ.set id o).sub θ=(σ.sub θ).set id (o.sub θ):=by simp[bg.sub,bg.set,ef.map_set]
def bg.D_(θ:Nat->bX)(σ:bg)(id:Nat):(σ.del id).sub θ=(σ.sub θ).del id:=by simp[bg.sub,bg.del,ef.map_set]
@[simp] theorem bg.cf9 (θ:Nat->bX) (σ:bg):(σ.sub θ).next=σ.next:=rfl
@[simp] theorem bg.cf8 (θ:Nat->bX) (σ:bg):(σ.sub θ).low=σ.low:=rfl
def bl.sub(θ:Nat->bX)(s:bl):bl:={ n:=s.n,mZ:=s.mZ.map (bX.sub θ),st:=s.st.sub θ }
@[simp] theorem bl.P' (θ:Nat->bX) (s:bl):(s.sub θ).n=s.n:=rfl
@[simp] theorem bl.ua (θ:Nat->bX) (s:bl):(s.sub θ).st=s.st.sub θ:=rfl
def bl.tB(θ:Nat->bX)(s:bl)(t:Nat):(s.sub θ).get t=(s.get t).sub θ:=by simp only[bl.get,bl.sub,ef.sY];cases s.mZ.get t<;>simp
def bl.sf(θ:Nat->bX)(s:bl)(σ:bg)(d:dv Tmp)(v:bX):({ s with st:=σ }.put d v).sub θ=({ s.sub θ with st:=σ.sub θ }.put d (v.sub θ)):=by cases d<;>simp[bl.put,bl.sub,ef.map_set]
def WA(θ:Nat->bX)(v:Value):(bX.ofValue v).sub θ=bX.ofValue v:=by cases v<;>simp[bX.ofValue]
def bl.sub_eval(θ:Nat->bX)(s:bl)(x:Operand):(s.sub θ).eval x=(s.eval x).sub θ:=by
 cases x with
 |tmp t=>exact bl.tB θ s t
 |const v=>exact(WA θ v).symm
 |global g=>simp[bl.eval]
 |func f=>simp[bl.eval]
def bl.aq0(θ:Nat->bX)(s:bl):(s.sub θ).eval=λx=>(s.eval x).sub θ:=funext (bl.sub_eval θ s)
def Fv(θ:Nat->bX){ops:Array Oper}{s:bl}{o:Oper}{b:Bool}(h:pv ops s o=Z b):pv ops (s.sub θ) o=Z b:=by unfold pv at *;split at h;exact h;split at h;split at h;rename_i a;simp only[bl.P',a,bl.tB];split at h;rename_i c;rw[c];simpa using h;rename_i c;rw[c];simpa using h;cases h;cases h;cases h
variable {cs:eX}{elem:TypeId}{ix:bX}{l:eX}{parts:cu (Nat×bX)}{r:dv Nat×cu eX}{s:bX}{sT:TypeId}{size:Nat}{t:TypeId}{v x:bX}{xT:TypeId}{σ σ':bg}
section
variable {θ:Nat->bX}
def QB(l:cu Value):(l.map bX.b4).map (bX.sub θ)=l.map bX.b4:=by simp
def M1(ti:nk):ti.zeroCells.map (bX.sub θ)=ti.zeroCells:=QB _
def W4(ti:nk):ti.x_.sub θ=ti.x_:=WA θ _
def bT1{T:bY}{id:Nat}(h:Aj T σ id t=Z (v,σ')):Aj T (σ.sub θ) id t=Z (v.sub θ,σ'.sub θ):=by unfold Aj at *;split at h;cases h;simp[bg.pQ,c7.sub,M1];cases h
def Iv{ti:nk}{j:Nat}(h:sj ti cs j=Z v):sj ti (cs.map (bX.sub θ)) j=Z (v.sub θ):=by unfold sj at *;split at h;rename_i ha;rw[cr ha];split at h;rename_i hl;cases h;rw[cr (by simpa using hl)];simp;cases h;rename_i ha;rw[cc ha];simp[h]
def NN{T:bY}(h:py T σ t x=Z v):py T (σ.sub θ) t (x.sub θ)=Z (v.sub θ):=by unfold py at h;split at h;split at h;rename_i elem size es ho;split at h;rename_i cs a;split at h;rename_i ti b;simp only[py,KH,bg.x3,ho,ai,c7.sub,aS,a,b];exact Iv h;cases h;cases h;cases h;split at h;rename_i ti b;simp only[py,R3,b];exact Iv h;cases h;cases h
def bS9{T:bY}(h:tg T σ t x=Z v):tg T (σ.sub θ) t (x.sub θ)=Z (v.sub θ):=by
 unfold tg at h;split at h;rename_i g a;rw[On a,pN];simp only[tg,vW];unfold GY at h⊢;split at h;split at h;rename_i l hl;have:=Iv (θ:=θ) h;simp only[de]at this;exact this;cases h;cases h;have h1:=NN (θ:=θ) h;have h2:vW (x.sub θ)=W:=by unfold py at h;split at h;rfl;rfl;cases h
 simp only[tg,h2];exact h1
def VJ{T:bY}{s:TypeId}{f:Nat}(h:wB T s x f=Z v):wB T s (x.sub θ) f=Z (v.sub θ):=by unfold wB at h;split at h;rename_i fields _ _ _ _ hs;split at h;rename_i fd hf;split at h;rename_i b a;split at h;cases h;rename_i hz;split at h;cases h;simp only[wB,hs,hf,a,KH];rw[cc hz];split at h;rename_i hl;cases h;simp only[wB,hs,hf,a];rw[cc hz];simp[hl];cases h;cases h;cases h;cases h;cases h
def cc5{T:bY}{off:Nat}(h:Ay T t cs off=Z v):Ay T t (cs.map (bX.sub θ)) off=Z (v.sub θ):=by unfold Ay at *;split at h;exact Iv h;cases h
def bo5{T:bY}(h:sH T t x ix=Z v):sH T t (x.sub θ) (ix.sub θ)=Z (v.sub θ):=by unfold sH at h;split at h;rename_i elem _ _ _ _ k n b;split at h;rename_i d he;split at h;split at h;rename_i a;cases h;simp[sH,b,he,a];cases h;split at h;rename_i a;split at h;rename_i cs c;split at h;rename_i hl;cases h;simp[sH,b,he,a,c,hl];cases h;cases h;cases h;cases h;cases h;rename_i len elem _ _ _ _ k n b;split at h;rename_i d he;split at h;rename_i a;split at h;cases h;simp[sH,b,he,a];split at h;rename_i hl;cases h;simp[sH,b,he,a,hl];cases h;cases h;cases h;cases h;cases h
def bX5{T:bY}(h:vZ T t x ix=Z v):vZ T t (x.sub θ) (ix.sub θ)=Z (v.sub θ):=by unfold vZ at h;split at h;rename_i len elem _ _ _ _ cs k n a;split at h;rename_i e he;split at h;rename_i c;simp only[vZ,a,he,BW,pN];rw[cr c];exact cc5 h;cases h;cases h;rename_i a;split at h;rename_i c;split at h;rename_i b d;cases h;simp[vZ,a,c,d];cases h;cases h;cases h
def zN{len:Nat}{x:dv bX}{d n:Nat}(h:bound len x d=Z n):bound len (x.map (bX.sub θ)) d=Z n:=by unfold bound at h;split at h;simpa[bound]using h;split at h;rename_i a;simpa[bound,a]using h;cases h;cases h
def bZ4{T:bY}{b7 a7 pP:dv bX}(h:uB T t x b7 a7 pP=Z v):uB T t (x.sub θ) (b7.map (bX.sub θ)) (a7.map (bX.sub θ)) (pP.map (bX.sub θ))=Z (v.sub θ):=by
 unfold uB at h;split at h;rename_i elem _ _ _ _ e;split at h;rename_i i id size off len he;split at h;rename_i hs;split at h;rename_i g a;split at h;rename_i l b;cases h;simp[uB,e,he,hs,zN a,zN b];cases h;cases h;cases h;rename_i i es he;split at h;rename_i g a;split at h;rename_i l b;split at h;rename_i f;cases h;have d:((es.map (cD (bX.sub θ))).all λc=>aa c==i.size)=Y:=by rw[gz];simpa using f
 simp only[uB,Option.map_none,e,he,yQ,aI,zN a,zN b];rw[cr d];simp;cases h;cases h;cases h;rename_i he;split at h;rename_i g a;split at h;rename_i l b;cases h;simp[uB,e,he,zN a,zN b];cases h;cases h;cases h;rename_i e;split at h;split at h;rename_i g a;split at h;rename_i l b;cases h;simp[uB,e,zN a,zN b];cases h;cases h;cases h;cases h
def JL:∀ {cs:eX} {l:eD},bX.vf cs=Z l->cs.map (bX.sub θ)=cs
 | [],_,_=>rfl
 |c::cs,l,h=>by unfold bX.vf at h;split at h;rename_i e;cases e;rename_i n a e;cases e;split at h;rename_i b hl;simp[JL hl];cases h;cases h
def aE7{b:Bool}(h:x.isNil=Z b):(x.sub θ).isNil=Z b:=by unfold bX.isNil at h;split at h;simpa[bX.isNil]using h;simpa[bX.isNil]using h;simpa[bX.isNil]using h;cases h
def aO3(T:bY)(op:BinOp)(t:TypeId)(z:bX):q7 T op t z (.b4 (.slice W 0 0))=(match T t,z.isNil with
  |some { j4:=.slice _,.. },Z b=>match op with
   | .eql=>Z (.b4 (.bool b))
   | .neq=>Z (.b4 (.bool !b))
   |_=>W
  |_,_=>W):=by cases z<;>first|rfl| (rename_i v;cases v<;>rfl)
def aI1{T:bY}{op:BinOp}{y:bX}(h:q7 T op t x y=Z v):q7 T op t (x.sub θ) (y.sub θ)=Z (v.sub θ):=by have a:=h;unfold q7 at h;split at h;split at h;rename_i e _ _ _ _ b d f;have c:=aE7 (θ:=θ) f;rw[pN,aO3,d,c];split at h;cases h;rfl;cases h;rfl;cases h;cases h;rw[pN,pN,a];split at h;split at h;cases h;rfl;cases h;rfl;cases h;cases h;rw[pN,pN,a];split at h;cases h;rfl;cases h;split at h;rename_i az fA ti h1 h2 g;rw[BW,BW,JL h1,JL h2,a];split at h;split at h;cases h;rfl;cases h;rfl;cases h;cases h;cases h;cases h
def aX9{op:UnOp}(h:wD op x=Z v):wD op (x.sub θ)=Z (v.sub θ):=by unfold wD at h;split at h;cases h;simp[wD];cases h;simp[wD];cases h
def af3:∀ {es:cu eX} {al:eD},xV es=Z al->es.map (cD (bX.sub θ))=es
 | [],_,_=>rfl
 |r::es,al,h=>by unfold xV at h;split at h;rename_i e;cases e;rename_i n l e;cases e;split at h;rename_i ms hm;simp[af3 hm];cases h;cases h
def aF6{T:bY}{s d:TypeId}(h:w0 T s d x=Z v):w0 T s d (x.sub θ)=Z (v.sub θ):=by have a:=h;unfold w0 at h;split at h;rename_i h1 h2;cases h;simp[w0,h1,h2];split at h;split at h;rename_i b;cases h;simp only[bX.sub,vQ,af3 b];exact a;cases h;cases h;cases h
def bH4{i:Nat}(h:BO x i=Z v):BO (x.sub θ) i=Z (v.sub θ):=by unfold BO at h;split at h;simp[BO,h];cases h
def WS(cs:eX)(j:Nat)(vs:eX):(qz cs j vs).map (bX.sub θ)=qz (cs.map (bX.sub θ)) j (vs.map (bX.sub θ)):=by simp[qz]
variable (hθ:Fit θ)
include hθ
theorem aH4{id:Nat}(h:yf σ id t x=Z (v,σ')):yf (σ.sub θ) id t (x.sub θ)=Z (v.sub θ,σ'.sub θ):=by unfold yf at h;split at h;rename_i cs hc;cases h;simp[yf,Jp hθ hc,bg.pQ,c7.sub];cases h
theorem WH{vs:eX}(h:vs.all bX.one=Y):(vs.map (bX.sub θ)).all bX.one=Y:=by rw[gz,aj];intro v hv;exact one_sub hθ (aj.1 h v hv)
theorem bW2{T:bY}(h:sq T σ t x v=Z σ'):sq T (σ.sub θ) t (x.sub θ) (v.sub θ)=Z (σ'.sub θ):=by unfold sq at h;split at h;rename_i id i j vs ti hc c;split at h;rename_i elem size es ho;split at h;rename_i cs b;split at h;rename_i a;cases h;simp only[sq,KH,Jp hθ hc,c,bg.x3,ho,ai,c7.sub,aS,b,aI];rw[cr ⟨a.1,a.2.1,WH hθ a.2.2⟩];rw[bg.pQ];simp[c7.sub,WS];cases h;cases h;cases h;cases h
theorem N_{place:Nat->dv (Nat×Nat)}:∀ {parts:cu (Nat×bX)} {cells cs:eX},uL place cells parts=Z cs->uL place (cells.map (bX.sub θ)) (parts.map λp=>(p.1,p.2.sub θ))=Z (cs.map (bX.sub θ))
 | [],cells,cs,h=>by simp only[uL,ah]at h;subst h;simp[uL]
 | (i,v)::rest,cells,cs,h=>by unfold uL at h;split at h;rename_i off size vs hp hv;split at h;rename_i hc;simp only[aD,uL,hp,Jp hθ hv,aI];rw[cr hc];have:=N_ h;rwa [WS]at this;cases h;cases h
theorem Wa:∀ {parts:cu (Nat×bX)} {es rs:cu eX},vN size es parts=Z rs->vN size (es.map (cD (bX.sub θ))) (parts.map λp=>(p.1,p.2.sub θ))=Z (rs.map (cD (bX.sub θ)))
 | [],es,rs,h=>by simp only[vN,ah]at h;subst h;simp[vN]
 | (i,v)::rest,es,rs,h=>by unfold vN at h;split at h;rename_i vs hv;split at h;rename_i hc;simp only[aD,vN,Jp hθ hv,aI];rw[cr hc];have:=Wa h;rwa [List.map_set]at this;cases h;cases h
theorem bZ8{T:bY}(h:Aa T t parts=Z v):Aa T t (parts.map λp=>(p.1,p.2.sub θ))=Z (v.sub θ):=by unfold Aa at h;split at h;rename_i fields _ z _ _ a;split at h;rename_i l hl;split at h;rename_i cs hc;cases h;have:=N_ hθ hc;rw[QB]at this;simp only[Aa,a,hl,this,BW];cases h;cases h;rename_i n elem _ z _ _ a;split at h;rename_i b he;split at h;rename_i cs hc;cases h;have:=N_ hθ hc;rw[QB]at this;simp only[Aa,a,he,this,BW];cases h;cases h;cases h
theorem bo1{T:bY}{id:Nat}{len:Nat}(h:wz T σ id t len parts=Z (v,σ')) :
  wz T (σ.sub θ) id t len (parts.map λp=>(p.1,p.2.sub θ))=Z (v.sub θ,σ'.sub θ):=by
 unfold wz at h;split at h;rename_i elem _ _ _ _ a;split at h;rename_i b he;split at h;rename_i hc;split at h;rename_i es hes;cases h;have:=Wa hθ hes;rw[List.map_replicate,M1]at this;simp only[wz,a,he,hc,and_self,vE,this,xL,bg.pQ,c7.sub];cases h;cases h;cases h;cases h
omit hθ in
theorem ca1{es:cu eX}(h:oS σ x=Z es):oS (σ.sub θ) (x.sub θ)=Z (es.map (cD (bX.sub θ))):=by unfold oS at h;split at h;split at h;rename_i ho;split at h;rename_i hl;cases h;simp[oS,bg.x3,ho,c7.sub,hl];cases h;cases h;cases h;simp[oS];cases h;simp[oS];cases h
omit hθ in
theorem bT3(h:ry σ elem size x=Z r):ry (σ.sub θ) elem size (x.sub θ)=Z (r.1,r.2.map (cD (bX.sub θ))):=by unfold ry at h;split at h;split at h;rename_i ho;split at h;rename_i hc;cases h;simp only[xL,ry,bg.x3,ho,ai,c7.sub,aI];rw[cr hc];cases h;cases h;cases h;simp[ry];cases h
theorem bQ3{T:bY}{id:Nat}(h:sM T σ id sT xT s x=Z (v,σ')):sM T (σ.sub θ) id sT xT (s.sub θ) (x.sub θ)=Z (v.sub θ,σ'.sub θ):=by
 unfold sM at h;split at h;rename_i elem _ _ _ _ j e f;split at h;rename_i g he;split at h;rename_i b es xs i hs;split at h;rename_i hc;cases h;have a:((xs.map (cD (bX.sub θ))).all λc=>aa c==g.size&&c.all bX.one)=Y:=by rw[gz,aj];intro c d;have:=aj.1 hc.2.1 c d;simp only[kS,aI,ab]at this⊢;exact⟨this.1,WH hθ this.2⟩
 simp only[sM,e,f,he,bT3 i,ca1 hs,aI];rw[cr ⟨hc.1,a,hc.2.2⟩];cases b<;>simp[bg.pQ,bg.D_,c7.sub];cases h;cases h;cases h;cases h
omit hθ in
theorem bF7(a:ry (oF σ s) elem size s=Z r):oF (σ.sub θ) (s.sub θ)=(oF σ s).sub θ:=by
 unfold ry at a;split at a;rename_i id z len;simp only[oF,xL,bg.x3];cases ho:σ.bF id with
 |none=>simp
 |some o=>
  cases o with
  |row e b es =>simp only[ai,c7.sub,aI];split;rw[bg.pQ];simp[c7.sub];rfl
  |fN e b i =>simp only[oF,ho]at a;cases a
  |nC c =>simp only[oF,ho]at a;cases a
  |nH =>simp only[oF,ho]at a;cases a
  |_=>simp[c7.sub]
 simp[oF];cases a
omit hθ in
theorem bY6{T:bY}{id:Nat}(h:xK T σ id elem s x=Z (v,σ')):xK T (σ.sub θ) id elem (s.sub θ) (x.sub θ)=Z (v.sub θ,σ'.sub θ):=by unfold xK at h;split at h;rename_i k n a he;split at h;rename_i hc;cases h;simp only[xK,pN,he];rw[cr hc];simp[bg.pQ,c7.sub,M1];cases h;cases h
theorem bI3{T:bY}{id:Nat}(h:qS T σ id sT xT s x=Z (v,σ')):qS T (σ.sub θ) id sT xT (s.sub θ) (x.sub θ)=Z (v.sub θ,σ'.sub θ):=by unfold qS at h⊢;split at h;exact bY6 h;have hk:=bQ3 hθ h;unfold sM at h;split at h;split at h;split at h;rename_i a _;rwa [bF7 a];cases h;cases h;cases h
omit hθ in
theorem aP1{T:bY}(h:p3 T σ t x=Z v):p3 T (σ.sub θ) t (x.sub θ)=Z (v.sub θ):=by unfold p3 at h;split at h;rename_i ti a;split at h;rename_i hu;cases h;simp[p3,a,hu];rename_i hu;cases h;simp[p3,a,hu];rename_i hu;cases h;simp[p3,a,hu];rename_i hu;cases h;simp[p3,a,hu];rename_i n e _ hu;cases h;simp[p3,a,hu];rename_i hu;split at h;rename_i ho;cases h;simp[p3,a,hu,bg.x3,ho,c7.sub];cases h;cases h;cases h
omit hθ in
theorem Xk(k:IntKind):∀ {l:eX} {a:Int} {v:Value},Ag k a l=Z v->l.map (bX.sub θ)=l
 | [],_,_,_=>rfl
 |c::l,a,v,h=>by unfold Ag at h;split at h;rename_i e;cases e;rename_i e;cases e;simp[Xk k h];cases h
omit hθ in
theorem WU(k:IntKind):∀ {l:eX} {a:Int} {v:Value},Ah k a l=Z v->l.map (bX.sub θ)=l
 | [],_,_,_=>rfl
 |c::l,a,v,h=>by unfold Ah at h;split at h;rename_i e;cases e;rename_i e;cases e;simp[WU k h];cases h
omit hθ in
theorem aH5{v:Value}(h:zn l=Z v):l.map (bX.sub θ)=l:=by unfold zn at h;split at h;simp[Xk _ h];cases h
omit hθ in
theorem aQ5{v:Value}(h:zl l=Z v):l.map (bX.sub θ)=l:=by unfold zl at h;split at h;simp[WU _ h];cases h
omit hθ in
theorem aN4{T:bY}(h:A7 T t x=Z v):A7 T t (x.sub θ)=Z (v.sub θ):=by unfold A7 at h;split at h;rename_i a;cases h;simp[A7,a];cases h
omit hθ in
theorem Gg{k:Bool×eD}(h:x.key=Z k):(x.sub θ).key=Z k:=by unfold bX.key at h;split at h;simpa[bX.key]using h;split at h;rename_i cs l hl;rw[BW,JL hl];simpa[bX.key,hl]using h;cases h;cases h
omit hθ in
theorem Jb(agg:Bool)(l:eD):∀(es:cu (eD×bX×Nat)) (i:Nat),nX agg l (es.map λe=>(e.1,e.2.1.sub θ,e.2.2)) i=(nX agg l es i).map λp=>(p.1,p.2.sub θ)
 | [],i=>rfl
 |e::es,i=>by simp only[aD,nX];split;rfl;exact Jb agg l es (i+1)
omit hθ in
theorem NA(T:bY)(a:TypeId)(b:Bool)(l:eD)(es:cu (eD×bX×Nat)):tS T a b l (es.map λe=>(e.1,e.2.1.sub θ,e.2.2))=tS T a b l es:=by simp only[tS,gz,f_]
omit hθ in
theorem bH8{r:eX}(h:vO r=Y):vO (r.map (bX.sub θ))=Y/\∀j,oW j (r.map (bX.sub θ))=((oW j r).1,(oW j r).2.1.sub θ,(oW j r).2.2):=by
 unfold vO at h;split at h;rename_i k v;cases hk:k.key with
 |none=>simp[hk]at h
 |some x=>simp[vO,oW,Gg hk,hk]
 cases h
omit hθ in
theorem VQ:∀ {rows:cu eX} (j:Nat),rows.all vO=Y->(rows.map (cD (bX.sub θ))).all vO=Y/\nT j (rows.map (cD (bX.sub θ)))=(nT j rows).map λe=>(e.1,e.2.1.sub θ,e.2.2)
 | [],_,_=>by simp[nT]
 |r::rs,j,h=>by simp only[bE,ab]at h;let ⟨h1,h2⟩:=bH8 (θ:=θ) h.1;let ⟨a,b⟩:=VQ (rows:=rs) (j+1) h.2;simp only[aD,bE,ab,nT,h2,b];exact⟨⟨h1,a⟩,trivial⟩
omit hθ in
theorem cd0{rows:cu eX}(h:rows.all vO=Y):rZ (rows.map (cD (bX.sub θ)))=rZ rows:=by
 cases rows;rfl;simp only[bE,ab]at h;have h1:=h.1;unfold vO at h1;split at h1;rename_i k v;cases hk:k.key with
 |none=>simp[hk]at h1
 |some x=>simp[rZ,Gg hk,hk]
 cases h1
omit hθ in
theorem bL5{T:bY}{ok:Bool}(h:qk T σ t x ix ok=Z v):qk T (σ.sub θ) t (x.sub θ) (ix.sub θ) ok=Z (v.sub θ):=by unfold qk at h;split at h;rename_i c d _ _ _ _ b l a hk;split at h;rename_i e he;split at h;split at h;rename_i agg es _ ho;split at h;rename_i hc;cases h;simp only[qk,a,Gg hk,he,B6,bg.x3,ho,ai,c7.sub,NA,iL,Jb];rw[cr hc];cases nX b l es 0<;>cases ok<;>simp[W4];cases h;cases h;rename_i rows;split at h;rename_i hc;cases h;let ⟨fa,gb⟩:=VQ (θ:=θ) 0 hc.2.2;simp only[qk,a,Gg hk,he,B4,yQ,fa,gb,cd0 hc.2.2,NA,iL,Jb];rw[cr ⟨hc.1,hc.2.1,trivial⟩];cases nX b l (nT 0 rows) 0<;>cases ok<;>simp[W4];cases h;cases h;cases h;cases h
omit hθ in
theorem aR6(agg:Bool)(l:eD)(v:bX)(clock:Nat)(es:cu (eD×bX×Nat)) :
  qe agg l (v.sub θ) clock (es.map λe=>(e.1,e.2.1.sub θ,e.2.2))=((qe agg l v clock es).1.map (λe=>(e.1,e.2.1.sub θ,e.2.2)),(qe agg l v clock es).2):=by
 simp only[qe,Jb];cases nX agg l es 0 with
 |none=>simp
 |some p=>
  simp only[ai,iq,and_true];apply dU;intro j;simp only[List.getElem?_modify,aS];cases es[j]? with
  |none=>simp
  |some e=> split<;>simp
omit hθ in
omit hθ in
omit hθ in
omit hθ in
theorem bq2{T:bY}(h:si T σ t x ix v=Z σ'):si T (σ.sub θ) t (x.sub θ) (ix.sub θ) (v.sub θ)=Z (σ'.sub θ):=by unfold si at h;split at h;rename_i d e _ _ _ _ b l a hk;split at h;split at h;rename_i agg es clock ho;simp only[si,a,Gg hk,B6,bg.x3,ho,ai,c7.sub,NA,iL];split at h;rename_i hc;cases h;rw[cr hc];simp[bg.pQ,c7.sub];rename_i c;rw[cc c];split at h;rename_i hc;cases h;rw[cr hc];simp[bg.pQ,c7.sub,aR6];cases h;cases h;cases h;cases h
theorem bJ3{T:bY}{id:Nat}{b:Builtin}{ts:Array TypeId}{args:eX}(h:rW T σ id b ts args=Z (v,σ')):rW T (σ.sub θ) id b ts (args.map (bX.sub θ))=Z (v.sub θ,σ'.sub θ):=by unfold rW at h;split at h;rename_i t x d;split at h;rename_i u hu;cases h;simp[rW,d,aP1 hu];cases h;rename_i s x a c d;have:=bI3 hθ h;simp only[rW,d];exact this;rename_i t x d;split at h;rename_i u hu;cases h;simp[rW,d,aN4 hu];cases h;split at h;rename_i u hu;cases h;simp[rW,aH5 hu,hu];cases h;split at h;rename_i u hu;cases h;simp[rW,aQ5 hu,hu];cases h;cases h
theorem J7{T:bY}{g:Operand->bX}{id:Nat}{op:Op}(h:fb T g σ id op=Z (v,σ')):fb T (λx=>(g x).sub θ) (σ.sub θ) id op=Z (v.sub θ,σ'.sub θ):=by
 cases op with
 |pick c a b =>simp only[fb]at h⊢;split at h;rename_i t hc;cases h;simp only[hc];cases t<;>rfl;cases h
 |move x=>cases h;rfl
 |assign x=>cases h;rfl
 |alloc t=>exact bT1 h
 |box t x=>exact aH4 hθ h
 |build t ps =>simp only[fb]at h⊢;split at h;rename_i u hu;cases h;have:=bZ8 hθ hu;simp only[de,f_]at this;rw[this];cases h
 |buildSlice t len ps =>have:=bo1 hθ h;simp only[de]at this;exact this
 |load t x =>simp only[fb]at h⊢;split at h;rename_i u hu;cases h;rw[bS9 hu];cases h
 |store t a x =>simp only[fb]at h⊢;split at h;rename_i u hu;cases h;rw[bW2 hθ hu];simp;cases h
 |nilCheck x =>simp only[fb]at h⊢;split at h;rename_i e;cases h;simp[e];rename_i e;cases h;simp[e];rename_i e;cases h;simp[e];cases h
 |binOp o t x y p =>simp only[fb]at h⊢;split at h;rename_i u hu;cases h;rw[aI1 hu];cases h
 |unOp o t x =>simp only[fb]at h⊢;split at h;rename_i u hu;cases h;rw[aX9 hu];cases h
 |convert s d x =>simp only[fb]at h⊢;split at h;rename_i u hu;cases h;rw[aF6 hu];cases h
 |makeFunc f a c=>simp only[fb]at h⊢;cases h;simp
 |makeMap t n =>cases n;simp only[fb]at h⊢;cases h;simp[bg.pQ,c7.sub];simp[fb]at h
 |slice t x b7 a7 pP =>simp only[fb]at h⊢;split at h;rename_i u hu;cases h;have:=bZ4 (θ:=θ) hu;simp only[Option.map_map,f_]at this;rw[this];cases h
 |fieldAddr t x f =>simp only[fb]at h⊢;split at h;rename_i u hu;cases h;rw[VJ hu];cases h
 |indexAddr t x i =>simp only[fb]at h⊢;split at h;rename_i u hu;cases h;rw[bo5 hu];cases h
 |index t x i =>simp only[fb]at h⊢;split at h;rename_i u hu;cases h;rw[bX5 hu];cases h
 |lookup t x i ok =>simp only[fb]at h⊢;split at h;rename_i u hu;cases h;rw[bL5 hu];cases h
 |mapUpdate t m k x =>simp only[fb]at h⊢;split at h;rename_i u hu;cases h;rw[bq2 hu];simp;cases h
 |extract x i =>simp only[fb]at h⊢;split at h;rename_i u hu;cases h;rw[bH4 hu];cases h
 |call c=>
  let ⟨callee,args,ts⟩:=c;cases callee with
  |builtin b =>simp only[fb]at h⊢;have:=bJ3 hθ h;simpa[ f_]using this
  |value f=>simp[fb]at h
  |invoke r m=>simp[fb]at h
 |_=>simp[fb]at h
end
variable {P:Program}{a:Act}{args:Array Operand}{c:Code}{cap:eX}{f:FuncId}{i:Nat}{k:Operand}{m n:Nat}{o:Oper}{rest:cu Nat}{s s':bl}{ts:Array TypeId}{w w':World}{x:Code}{ι:Nat->dv (dv Nat)}{σ σ' σ1:bg}
structure ou(n:Nat)(G:ca)(σ:bg)(w:World)(G':ca)(σ':bg)(w':World):Prop where
 qs:G'.qs=G.qs
 lo:∀b o,G.lo b=Z o->G'.lo b=Z o
 pl:∀i,i<n->G'.pl i=G.pl i
 gA:n<=σ'.next
 bb:Fr G σ w G' σ' w'
def ou.refl(G:ca)(σ:bg)(w:World)(a:n<=σ.next):ou n G σ w G σ w:=⟨rfl,λ_ _ h=>h,λ_ _=>rfl,a,.refl G σ w⟩
def ou.trans{e f g:ca}{a c:bg}{j l p:World}(h:ou n e σ1 j f a l)(k:ou m f a l g c p)(d:n<=m):ou n e σ1 j g c p :=⟨k.qs.trans h.qs,λb o x=>k.lo b o (h.lo b o x),λi a7=>(k.pl i (by omega)).trans (h.pl i a7),bD d k.gA,h.bb.trans k.bb⟩
def tb.KI{G:ca}{G':ca}(h:tb m G σ w G' σ' w')(b:n<=m)(a:n<=σ.next):ou n G σ w G' σ' w' :=
 ⟨h.le.qs,h.le.lo,λi a7=>by
  cases hp:G.pl i with
  |none=>exact h.keeps i (by omega) hp
  |some p=>exact h.le.pl i p hp,bD a h.next,h.bb⟩
def ou.le{G:ca}{σ0:bg}{qs:World}{G':ca}(h:ou n G σ w G' σ' w')(a:Rel G σ0 qs)(b:σ0.next<=n):G.le G' :=⟨h.qs,h.lo,λi p hp=>by rw[h.pl i (by have:=a.VP hp;omega)];exact hp⟩
def j5(P:Program)(n:Nat)(c:Code)(Q:Exit->bl->Prop)(s:bl):Prop :=n<=s.st.next->∀G a w,zc G s a w->c.wp P (λe b w'=>∃s' G',ou n G s.st w G' s'.st w'/\zc G' s' b w'/\Q e s') a w
section
variable {P:Program} {n:Nat} {Q:Exit->bl->Prop} {s:bl}
def j5.mono{Q':Exit->bl->Prop}(h:j5 P n c Q s)(b:∀e s',Q e s'->Q' e s'):j5 P n c Q' s :=λd G a w f=>wp_mono (h d G a w f) λ_ _ _ ⟨s',G',g,a2,a3⟩=>⟨s',G',g,a2,b _ _ a3⟩
def j5.y4(h:nw P c Q s):j5 P n c Q s :=λb G a w d=>wp_mono (h G a w d) λ_ _ _ ⟨s',G',e,a2,a3⟩=>⟨s',G',e.KI b b,a2,a3⟩
def j5.seq{y:Code}(h:j5 P n x (Cw (j5 P n y Q) Q) s):j5 P n (.seq x y) Q s:=by
 intro c G a w d;refine wp_seq (wp_mono (h c G a w d) ?_);rintro e f w' ⟨s',G',b,a2,a3⟩;cases e with
 |normal =>refine wp_mono (a3 b.gA G' f w' a2) ?_;rintro m g o ⟨s2,i,j,k,l⟩;exact⟨s2,i,b.trans j (ay _),k,l⟩
 |_=>exact⟨s',G',b,a2,a3⟩
def j5.cond{c:Operand}{y:Code}{t:Bool}(hc:s.eval c=.b4 (.bool t))(h:j5 P n (ite t x y) Q s):j5 P n (.cond c x y) Q s:=by intro e G a w d;have:=d.eval c;rw[hc]at this;generalize b:a.eval c=u at this;cases this;exact wp_cond b (h e G a w d)
def j5.block{id:Nat}(h:j5 P n c (JB id Q) s):j5 P n (.block id c) Q s:=by
 intro d G a w f;refine wp_block (wp_mono (h d G a w f) ?_);rintro e g w' ⟨s',G',b,a2,a3⟩;cases e with
 |exit id' =>simp only[JB]at a3;simp only[Exit.inBlock];split;rename_i e;rw[cr e]at a3;exact⟨s',G',b,a2,a3⟩;rename_i e;rw[cc e]at a3;exact⟨s',G',b,a2,a3⟩
 |_=>exact⟨s',G',b,a2,a3⟩
def j5.scope(h:j5 P n c (λe s'=>bo9 e/\Q e s') s):j5 P n (.scope c) Q s:=by
 intro b G a w d;refine wp_scope_straight (wp_mono (h b G a w d) ?_);rintro e g w' ⟨s',G',f,a2,a3,a4⟩;cases e with
 |goto l=>exact a3.elim
 |_=>exact⟨s',G',f,a2,a4⟩
def j5.loop(I:Nat->bl->Prop)(round:∀k s,I k s->j5 P n c (Cw (λs'=>∃m,m<k/\I m s') Q) s){k:Nat}(B:I k s):j5 P n (.loop c) Q s:=by
 intro C G a w D;have pick:∀d b,(∃k,∃s' G',ou n G s.st w G' s'.st b/\zc G' s' d b/\I k s') ->
   ∃k,(∃s' G',ou n G s.st w G' s'.st b/\zc G' s' d b/\I k s')/\∀m,m<k->¬ ∃s' G',ou n G s.st w G' s'.st b/\zc G' s' d b/\I m s':=by
  rintro d b ⟨k,hk⟩
  induction k using ir with
  |_ k E =>by_cases hm:∃m,m<k/\∃s' G',ou n G s.st w G' s'.st b/\zc G' s' d b/\I m s';let ⟨m,g,i⟩:=hm;exact E m g i;exact⟨k,hk,λm g i=>hm ⟨m,g,i⟩⟩
 classical
 let l:Act->World->Nat:=λd b=>if h:∃k,∃s' G',ou n G s.st w G' s'.st b/\zc G' s' d b/\I k s' then(pick d b h).choose else 0
 refine wp_loop (λd b=>∃k,∃s' G',ou n G s.st w G' s'.st b/\zc G' s' d b/\I k s') l ⟨k,s,G,.refl _ _ _ C,D,B⟩ ?_;intro d b q;have H:l d b=(pick d b q).choose:=by simp only[l];rw[dif_pos q]
 let ⟨⟨s',G',v,J,K⟩,p⟩:=(pick d b q).choose_spec;refine wp_mono (round _ s' K v.gA G' d b J) ?_;rintro e a2 j ⟨s2,r,c1,c2,x⟩;have t:=v.trans c1 (ay _);cases e with
 |normal=>
  let ⟨m,hm,o⟩:=x;have f:∃k,∃s' G',ou n G s.st w G' s'.st j/\zc G' s' a2 j/\I k s':=⟨m,s2,r,t,c2,o⟩;refine⟨f,?_⟩;have z:l a2 j=(pick a2 j f).choose:=by simp only[l];rw[dif_pos f]
  have h2:=(pick a2 j f).choose_spec.2;rcases cU m (pick a2 j f).choose with u|M
  exact b8 ⟨s2,r,t,c2,o⟩ (h2 m u);omega
 |_=>exact⟨s2,r,t,c2,x⟩
end
def nn(P:Program)(ops:Array Oper)(n0 n:Nat)(Q:bl->Prop)(l:cu Nat)(s:bl):Prop :=
 ∀G a w,zc G s a w->(∀j∈l,j<ops.size/\G.pl (n0+j)=W)->n0+ops.size<=s.st.next->n<=n0 ->
  wpOps P ops (λe b w'=>e=.normal/\∃s' G',ou n G s.st w G' s'.st w'/\zc G' s' b w'/\Q s') l a w
section
variable {P:Program} {ops:Array Oper} {n0 n:Nat} {Q:bl->Prop} {s:bl}
def nn.nil(h:Q s):nn P ops n0 n Q [] s:=λG _ _ a _ h1 h2=>⟨rfl,s,G,.refl _ _ _ (by omega),a,h⟩
def nn.skip(ho:ops[i]?=Z o)(hw:pv ops s o=Z U)(hd:oz s.n o.dst=Y)(h:nn P ops n0 n Q rest (s.put o.dst (.b4 undef))):nn P ops n0 n Q (i::rest) s:=by intro G a w b hf d c;simp only[wpOps,ho,zK b hw];have:=h G _ w (b.put (.refl G) b.rel (.b4 undef) hd) (λj hj=>hf j (by simp[hj])) (by simpa using d) c;simpa using this
def nn.plain{T:bY}(cb:rk P T){v:bX}(ho:ops[i]?=Z o)(a7:i∉rest)(hw:pv ops s o=Z Y)(hd:oz s.n o.dst=Y)
  (ha:fb T s.eval s.st (n0+i) o.op=Z (v,σ')) (h:nn P ops n0 n Q rest ({ s with st:=σ' }.put o.dst v)):nn P ops n0 n Q (i::rest) s:=by
 intro G a w d hf K f;have q:=(aP.1 ho).1;have r:=(J9 ha).1;simp only[wpOps,ho,zK d hw];left;let ⟨G',u,w',h1,h2,c,t,x,g⟩:=Q3 (P:=P) cb d.rel d.eval (hf i (by simp)).2 (by omega) ha;have l:∀j∈rest,n0+j≠n0+i:=λj hj e=>a7 (by have z:=iX e;rw[<-z];exact hj);have key:=h G' (a.put o.dst u) w' (d.put h1 x t hd) (λj hj=>⟨(hf j (by simp[hj])).1,h2 _ (l j hj) (hf j (by simp[hj])).2⟩) (by simp;omega) f;have B:ou n G s.st w G' σ' w':=⟨h1.qs,h1.lo,λk hk=>by
  cases hp:G.pl k with
  |none=>exact h2 k (by omega) hp
  |some p=>exact h1.pl k p hp,by omega,g⟩
 have b:=sh (P:=P) (ops:=ops) (Q':=λe m w'=>e=.normal/\∃s' G',ou n G s.st w G' s'.st w'/\zc G' s' m w'/\Q s') (λe m w' ⟨C,s',D,E,H,I⟩ =>
  ⟨C,s',D,B.trans (by simpa using E) (ay _),H,I⟩) rest _ _ key
 unfold gB;rcases c with c|⟨c,J⟩
 rw[c];exact b;rw[c];subst J;exact b
def Told(P:Program)(f:FuncId)(args:eX)(σ:bg)(c:bX):Prop:=oO P f args σ (λv σ'=>v=c/\σ'=σ)
def M4{d:Operand}{fv cv:cu Value}(b:o.op=.call { callee:=.value d,args:=args,argTypes:=ts })
  (c:a.eval d=.func (.func f) fv.toArray cv.toArray):(execOp a.eval o).run P w=(callFunc f (fv++args.toList.map a.eval++cv).toArray).run P w:=by
 have e:fv.toArray++args.map a.eval++cv.toArray=(fv++args.toList.map a.eval++cv).toArray:=by apply dZ;simp
 simp only[execOp,b,resolve,c,ij,ax,bd,ao,invoke,e]
def nn.told{first:eX}(ho:ops[i]?=Z o)(l:o.op=.call { callee:=.value k,args:=args,argTypes:=ts })
  (hw:pv ops s o=Z Y) (hd:oz s.n o.dst=Y) (m:s.eval k=.fn (.func f) first cap) {c:bX}
  (hc:Told P f (first++args.toList.map s.eval++cap) s.st c) (h:nn P ops n0 n Q rest (s.put o.dst c)):nn P ops n0 n Q (i::rest) s:=by
 intro G a w g hf t p;simp only[wpOps,ho,zK g hw];left;have b:=g.eval k;rw[m]at b;generalize q:a.eval k=u at b;cases b with
 |fn _ _ _ fv cv h1 h2 x z=>
 have d :=(hE.append (G:=G) ⟨h1,x⟩ (hE.map g.eval args.toList)).append ⟨h2,z⟩;unfold gB;rw[M4 l q];refine hc G _ w d g.rel o a _ _ ?_;rintro v J σ' G' w' r B C ⟨rfl,rfl⟩;have key:=h G' (a.put o.dst v) w' (g.put r.le C B hd) (λj hj=>⟨(hf j (by simp[hj])).1,r.keeps _ (by have:=(hf j (by simp[hj])).1;omega) (hf j (by simp[hj])).2⟩) (by simpa using t) p;have D:ou n G s.st w G' s.st w':=r.KI (by omega) (by omega);exact sh (λe K w' ⟨E,s',H,c1,c2,I⟩=>⟨E,s',H,D.trans (by simpa using c1) (ay _),c2,I⟩) rest _ _ key
def nn.turns{first:eX}(ho:ops[i]?=Z o)(l:o.op=.call { callee:=.value k,args:=args,argTypes:=ts })
  (hw:pv ops s o=Z Y) (hd:oz s.n o.dst=Y) (m:s.eval k=.fn (.func f) first cap) {c:bX}  (t:s.st.next<=σ1.next)
  (hc:oO P f (first++args.toList.map s.eval++cap) s.st (λv σ'=>v=c/\σ'=σ1)) (h:nn P ops n0 n Q rest ({ s with st:=σ1 }.put o.dst c)):nn P ops n0 n Q (i::rest) s:=by
 intro G a w g hf J p;simp only[wpOps,ho,zK g hw];left;have b:=g.eval k;rw[m]at b;generalize q:a.eval k=u at b;cases b with
 |fn _ _ _ fv cv h1 h2 x z=>
 have d :=(hE.append (G:=G) ⟨h1,x⟩ (hE.map g.eval args.toList)).append ⟨h2,z⟩;unfold gB;rw[M4 l q];refine hc G _ w d g.rel o a _ _ ?_;rintro v K σ' G' w' r B C ⟨rfl,rfl⟩;have key:=h G' (a.put o.dst v) w' (g.put r.le C B hd) (λj hj=>⟨(hf j (by simp[hj])).1,r.keeps _ (by have:=(hf j (by simp[hj])).1;omega) (hf j (by simp[hj])).2⟩) (by simp;omega) p;have D:ou n G s.st w G' σ' w':=r.KI (by omega) (by omega);exact sh (λe M w' ⟨E,s',H,c1,c2,I⟩=>⟨E,s',H,D.trans (by simpa using c1) (ay _),c2,I⟩) rest _ _ key
def nn.inline{T:bY}(cb:rk P T){t:Operand}{first:eX}{fn:Func}(ho:ops[i]?=Z o)
  (z:o.op=.call { callee:=.value t,args:=args,argTypes:=ts }) (hw:pv ops s o=Z Y) (hd:oz s.n o.dst=Y) (B:s.eval t=.fn (.func f) first cap)
  (q:P.funcs[f]?=Z fn) (g:(fn.name== "runtime.NumGoroutine")=U) (I:fn.body=Z c) (hl:aa (first++args.toList.map s.eval++cap)<=fn.ntmps)
  (h:j5 P s.st.next c (λe s1=>(e=.normal\/e=.ret)/\∃v,pc T fn s1=Z v/\nn P ops n0 n Q rest ({ s with st:=s1.st }.put o.dst v)) (bl.enter fn.ntmps (first++args.toList.map s.eval++cap) s.st)) :
  nn P ops n0 n Q (i::rest) s:=by
 intro G a w p hf K C;simp only[wpOps,ho,zK p hw];left;have l:=p.eval t;rw[B]at l;generalize D:a.eval t=u at l;cases l with
 |fn _ _ _ fv cv h1 h2 M N=>
 have m :=(hE.append (G:=G) ⟨h1,M⟩ (hE.map p.eval args.toList)).append ⟨h2,N⟩;unfold gB;have r:(callFunc f (fv++args.toList.map a.eval++cv).toArray).run P w=.ok (.enter f (fv++args.toList.map a.eval++cv).toArray) w:=by simp only[callFunc,ax,run_program,ao,q,g,I,jW,aF,l4,bd]
 rw[M4 z D,r];refine calls_of_wp q I (wp_mono (h (ay _) G _ w (zc.enter m p.rel fn.ntmps hl)) ?_);rintro e E w' ⟨s1,G',b,x,hex,v,hv,O⟩;let ⟨y,J,H⟩:=IF (P:=P) cb x hv;have hle:=b.le p.rel (ay _);have key:=O G' (a.put o.dst y) w' (p.put hle x.rel H hd) (λj hj=>⟨(hf j (by simp[hj])).1,by rw[b.pl _ (by have:=(hf j (by simp[hj])).1;show n0+j<s.st.next;omega)];exact(hf j (by simp[hj])).2⟩) (by
  have:=b.gA;simp only[bl.Ch];exact bD K this) C
 have R:ou n G s.st w G' s1.st w':=⟨b.qs,b.lo,λk hk=>b.pl k (by show k<s.st.next;omega),by have:=b.gA;show n<=s1.st.next;exact bD (by omega) this,b.bb⟩;have d:=sh (P:=P) (ops:=ops) (Q':=λe E w'=>e=.normal/\∃s' G',ou n G s.st w G' s'.st w'/\zc G' s' E w'/\Q s') (λe E w' ⟨S,s',G2,c1,c2,c3⟩ =>
  ⟨S,s',G2,R.trans (by simpa using c1) (ay _),c2,c3⟩) rest _ _ key
 rcases hex with rfl|rfl
 exact⟨x.defers,y,J,d⟩;exact⟨x.defers,y,J,d⟩
end
def j5.region{Q:Exit->bl->Prop}{id:Nat}{ops:Array Oper}
  (h:nn P ops s.st.next n (Q .normal ·) (aT ops.size) { s with st:={ s.st with next:=s.st.next+ops.size } }):j5 P n (.region id ops U) Q s:=by
 intro f G a w b;refine wp_region ?_;have d:zc G { s with st:={ s.st with next:=s.st.next+ops.size } } a w:=⟨b.defers,b.size,b.tmps,b.rel.next (aZ _ _)⟩;refine sh ?_ _ _ _ (h G a w d (λj hj=>⟨by simpa using hj,b.rel.fresh _ (aZ _ _)⟩) (ay _) f);rintro e k w' ⟨rfl,s',G',c,g,i⟩;refine⟨s',G',⟨c.qs,c.lo,c.pl,c.gA,?_⟩,g,i⟩;exact(Fr.less (σ:=s.st) (σ':={ s.st with next:=s.st.next+ops.size }) (λ_ _ h=>h)).trans c.bb
def ca.oM(ι:Nat->dv (dv Nat))(G:ca):ca :={ qs:=G.qs,lo:=G.lo,pl:=λi=>match ι i with|some (Z k)=>G.pl k|some W=>Z ⟨0,0,0,Y⟩|none=>W }
variable {G G':ca}
def nI(ι:Nat->dv (dv Nat))(a b:bX):Prop:=∀G u,eR G b u->eR (G.oM ι) a u
def p4(ι:Nat->dv (dv Nat)):c7->c7->Prop
 | .row e s es,.row o s' d=>e=o/\s=s'/\aa es=aa d/\∀i (h:i<aa es) (h':i<aa d),es[i].length=d[i].length/\∀j (g:j<es[i].length) (p:j<d[i].length),nI ι es[i][j] d[i][j]
 | .map agg es c,.map f d l=>agg=f/\c=l/\aa es=aa d/\∀i (h:i<aa es) (h':i<aa d),es[i].1=d[i].1/\nI ι es[i].2.1 d[i].2.1/\es[i].2.2=d[i].2.2
 | .qO a b,.qO m n=>a=m/\b=n
 | .tq W a b c,.tq W m n l=>a=m/\b=n/\c=l
 | .tq (Z i) a b c,.tq (Z k) m n l=>ι i=Z (Z k)/\a=m/\b=n/\c=l
 |_,_=>False
structure Ren(ι:Nat->Option (Option Nat))(n:Nat)(s' s:bl):Prop where
 JO:s'.n=s.n
 low:∀i,i<n->ι i=Z (Z i)
 mW:∀i k,ι i=Z k->i<s'.st.next
 gA:n<=s'.st.next
 inj:∀i j k oi oj,ι i=Z (Z k)->ι j=Z (Z k)->s'.st.bF i=Z oi->s'.st.bF j=Z oj->i=j
 wc:∀t,t<s.n->nI ι (s'.get t) (s.get t)
 beyond:∀t,s.n<=t->s'.get t=.b4 undef
 bF:∀i o,s'.st.bF i=Z o->(∃k o',ι i=Z (Z k)/\s.st.bF k=Z o'/\p4 ι o o')\/(ι i=Z W/\∃e z,o=.row e z [])
def p4.ok{p:nt}{o o':c7}{ho:dv Obj}(h:p4 ι o o')(hk:oq G p o' ho):oq (G.oM ι) p o ho:=by
 cases o with
 |row e z es=>
  cases o' with
  |row B C k =>obtain⟨rfl,rfl,hl,h1⟩:=h;let ⟨cs,d,g,f,D,t⟩:=hk;refine⟨cs,d,g,f,by omega,λi a7=>?_⟩;let ⟨m1,m2⟩:=h1 i a7 (by omega);let ⟨l2,x8⟩:=t i (by omega);exact⟨by omega,λj hj l=>m2 j hj (by omega) G _ (x8 j (by omega) l)⟩
  |_=>exact h.elim
 |map agg es c=>
  cases o' with
  |map q k u =>obtain⟨rfl,rfl,hl,h1⟩:=h;let ⟨ents,d,g,f⟩:=hk;refine⟨ents,d,by omega,λi a7 n=>?_⟩;let ⟨m1,m2,m3⟩:=h1 i a7 (by omega);let ⟨l2,x8,pG⟩:=f i (by omega) n;exact⟨by rw[m1];exact l2,m2 G _ x8,by rw[m3];exact pG⟩
  |_=>exact h.elim
 |qO a b=>
  cases o' with
  |qO v w=>obtain⟨rfl,rfl⟩:=h;exact hk
  |_=>exact h.elim
 |tq m a b c=>
  cases o' with
  |tq r v w u =>cases m;cases r;obtain⟨rfl,rfl,rfl⟩:=h;exact hk;exact h.elim;cases r;exact h.elim;obtain⟨a7,rfl,rfl,rfl⟩:=h;let ⟨m1,d,x,g,f⟩:=hk;exact⟨m1,d,x,by simp only[ca.oM,a7];exact g,f⟩
  |_=>exact(by cases m<;>exact h.elim)
 |fN e z i=>cases o'<;>exact h.elim
 |nC c=>cases o'<;>exact h.elim
 |nH=>cases o'<;>exact h.elim
 |qh s p=>cases o'<;>exact h.elim
def Ren.rel(h:Ren ι n s' s)(f:zc G s a w):zc (G.oM ι) s' a w/\ou n G s.st w (G.oM ι) s'.st w:=by
 have g:∀i k,ι i=Z (Z k)->(G.oM ι).pl i=G.pl k:=λi k a7=>by simp only[ca.oM,a7]
 have d:∀i,ι i=Z W->(G.oM ι).pl i=Z ⟨0,0,0,Y⟩:=λi a7=>by simp only[ca.oM,a7]
 refine⟨⟨f.defers,by rw[h.JO];exact f.size,λt=>?_,?_⟩,?_⟩;rcases cU t s.n with u|u
 exact h.wc t u G _ (f.tmps t);rw[h.beyond t u];have:a.tmps.getD t undef=undef:=by simp[f.size,Nat.not_lt.2 u]
 rw[this];exact .b4 _;refine⟨f.rel.os,f.rel.tape,f.rel.output,f.rel.size,f.rel.lo,λi a7=>?_,λi o ho=>?_,λi j oi oj pi pj h1 h2 q v v1 v2 J=>?_,f.rel.qE⟩;cases r:ι i with
 |none=>simp only[ca.oM,r]
 |some k=>have:=h.mW i k r;omega
 rcases h.bF i o ho with⟨k,o',a7,hk,l⟩|⟨a7,e,z,rfl⟩
 let ⟨p,hp,hl⟩:=f.rel.bF k o' hk;refine⟨p,by rw[g i k a7];exact hp,?_⟩;rcases hl with⟨hv,e,z,rfl⟩|⟨hv,l2,x8,pG⟩
 cases o with
 |row K M es =>obtain⟨rfl,rfl,hlen,_⟩:=l;have:=List.eq_nil_of_length_eq_zero (by simpa using hlen);subst this;exact .inl ⟨hv,_,_,rfl⟩
 |tq m a b c=>cases m<;>exact l.elim
 |_=>exact l.elim
 exact .inr ⟨hv,l2,x8,l.ok pG⟩;exact⟨_,d i a7,.inl ⟨rfl,e,z,rfl⟩⟩;rcases h.bF i oi h1 with⟨x,B,a7,C,_⟩|⟨a7,_⟩
 rcases h.bF j oj h2 with⟨I,D,hj,E,_⟩|⟨hj,_⟩
 rw[g i x a7]at q;rw[g j I hj]at v;have:=f.rel.sep x I B D pi pj C E q v v1 v2 J;subst this;exact h.inj i j x oi oj a7 hj h1 h2;rw[d j hj]at v;cases v;cases v2;rw[d i a7]at q;cases q;cases v1;refine⟨rfl,λ_ _ H=>H,λi a7=>g i i (h.low i a7),h.gA,⟨ay _,λ_ _ _=>rfl,λi o p h1 h2 q _=>?_,λ_ _ H=>.inl H,ay _⟩⟩;rcases h.bF i o h1 with⟨k,o',a7,hk,_⟩|⟨a7,_⟩
 rw[g i k a7]at h2;exact⟨k,o',p,hk,h2,q,rfl⟩;rw[d i a7]at h2;cases h2;cases q
def j5.conv{Q:Exit->bl->Prop}(h:Ren ι n s' s)(b:j5 P n c Q s'):j5 P n c Q s:=by intro k G a w d;let ⟨h1,h2⟩:=h.rel d;refine wp_mono (b h.gA _ a w h1) ?_;rintro e l w' ⟨s2,f,g,i,j⟩;exact⟨s2,f,h2.trans g (ay _),i,j⟩
def j5.bf6{Q:Exit->bl->Prop}(h:j5 P n c (λe s1=>∃ι s2,Ren ι n s2 s1/\Q e s2) s):j5 P n c Q s:=by intro b G a w d;refine wp_mono (h b G a w d) ?_;rintro e k w' ⟨s1,l,f,g,ι,s2,i,j⟩;let ⟨h1,h2⟩:=i.rel g;exact⟨s2,_,f.trans h2 (ay _),h1,j⟩
def oX.DS  {T:bY} (cb:rk P T)  {fn:Func}  {args:eX} {r:bX} (C:P.funcs[f]?=Z fn) (t:(fn.name== "runtime.NumGoroutine")=U) (l:fn.body=Z c) (hn:aa args<=fn.ntmps)
  (hp:args.all bX.kl=Y) (h:j5 P 0 c (λe s'=>(e=.normal\/e=.ret)/\∃v,pc T fn s'=Z v/\∀G w u pl,Rel G s'.st w->eR G v u->eR (G.frozen s'.st w pl) r u) (bl.enter fn.ntmps args bg.none)):oX P ⟨f,args,r⟩:=by
 intro σ G vs w m d o a Kc Q hK;have D:(callFunc f vs.toArray).run P w=.ok (.enter f vs.toArray) w:=by simp only[callFunc,ax,run_program,ao,C,t,l,jW,aF,l4,bd]
 rw[D];let G0:ca:={ G with pl:=λ_=>lJ };have q:hE G0 args vs:=⟨m.1,λi h1 h2=>rr (G:=G) (G':=G0) (λ_ _ h=>h) (m.2 i h1 h2) (aj.1 hp _ (au h1))⟩;have z:Rel G0 bg.none w:=⟨d.os,d.tape,d.output,d.size,d.lo,λ_ _=>rfl,(λid o h=>by rw[bg.sZ]at h;cases h),(λi j oi oj pi pj h=>by rw[bg.sZ]at h;cases h),d.qE⟩;refine calls_of_wp C l (wp_mono (h (di _) G0 _ w (zc.enter q z fn.ntmps hn)) ?_);rintro e a' J ⟨s1,M,s,K,hex,v,hv,hd⟩;let ⟨y,hy,N⟩:=IF (P:=P) cb K hv;have g:=K.rel;have k:∀b,¬ ∃id0 o0 p0,bg.none.bF id0=Z o0/\G0.pl id0=Z p0/\p0.mX=U/\p0.block=b:=λb ⟨id,o0,p0,h,_⟩=>by rw[bg.sZ]at h;cases h
 have n:=λb l=>s.bb.same b l (λid o p h=>by rw[show(bl.enter fn.ntmps args bg.none).st=bg.none from rfl,bg.sZ]at h;cases h);let G':ca:=M.frozen s1.st J G.pl;have himm:∀b x,G'.lo b=Z x->G.lo b=Z x\/w.heap.size<=b:=λb x B=>by
  simp only[G',ca.frozen]at B;split at B;rename_i hl;obtain⟨id,o1,p,h1,h2,E,rfl⟩:=hl;right;rcases cU p.block w.heap.size with H|H
  exact b8 (s.bb.live id o1 p h1 h2 E H) (k _);exact H;rcases s.bb.lo b x B with h1|h1|h1
  exact .inl h1;exact .inr h1;exact b8 h1 (k _)
 have hle:G.le G':=⟨s.qs,λb x l=>tc g (s.lo b x l),λ_ _ h=>h⟩;have O:=s.qs;have fin:Kc (a.put o.dst y) J:=by
  refine hK y r σ G' J ⟨hle,λ_ _ h=>h,ay _,⟨s.bb.size,λb l _=>n b l,λid x p h1 h2 E _=>⟨id,x,p,h1,h2,E,rfl⟩,λb x l=>?_,s.bb.drawn⟩⟩ (hd M J y G.pl g N) ?_ ⟨rfl,rfl⟩;rcases himm b x l with h1|h1
  exact .inl h1;exact .inr (.inl h1);refine⟨g.os,g.tape,g.output,g.size,λb x l=>?_,d.fresh,λid x B=>?_,d.sep,λb o v hv=>hle.cell (d.qE b o v hv)⟩;simp only[G',ca.frozen]at l;split at l;exact l;exact g.lo b x l;let ⟨p,I,hl⟩:=d.bF id x B;refine⟨p,I,?_⟩;rcases hl with⟨h1,h2⟩|⟨h1,h2,E,H⟩
  exact .inl ⟨h1,h2⟩;have R:=d.r_ B I h1;refine .inr ⟨h1,?_,by show M.qs.heap.size<=_;rw[O];exact E,by rw[n _ R];exact H.mono hle⟩;cases a7:G'.lo p.block with
  |none=>rfl
  |some y=>
   rcases himm _ _ a7 with S|S
   rw[h2]at S;cases S;omega
 rcases hex with rfl|rfl
 exact⟨K.defers,y,hy,fin⟩;exact⟨K.defers,y,hy,fin⟩
def El:bX->Bool
 | .b4 _=>Y
 | .agg cs=>cs.all λc=>match c with| .b4 _=>Y|_=>U
 | .ed cs=>cs.all λc=>match c with| .b4 _=>Y| .agg a=>a.all (λd=>match d with| .b4 _=>Y|_=>U)|_=>U
 |_=>U
def eR.flatAll{cs:eX}{vs:cu Value}(h1:aa vs=aa cs)(h:∀i (h:i<aa cs) (h':i<aa vs),eR G cs[i] vs[i])(hf:cs.all (λc=>match c with| .b4 _=>Y|_=>U)=Y) :
  ∀i (h:i<aa cs) (h':i<aa vs),eR G' cs[i] vs[i]:=λi a7 a=>by
 have h2:=aj.1 hf cs[i] (au a7);have b:=h i a7 a;generalize cs[i]=c at *;split at h2;cases b;exact .b4 _;cases h2
def eR.flat{c:bX}{v:Value}(h:eR G c v)(hf:El c=Y):eR G' c v:=by
 unfold El at hf;split at hf;cases h;exact .b4 _;rename_i cs;cases h with
 |agg _ vs h1 h2=>exact .agg cs vs h1 (eR.flatAll h1 h2 hf)
 rename_i cs;cases h with
 |ed _ vs h1 h2=>
  refine .ed cs vs h1 λi a7 a=>?_;have b:=aj.1 hf cs[i] (au a7);have d:=h2 i a7 a;generalize cs[i]=c at *;generalize vs[i]=v at *;split at b;cases d;exact .b4 _;cases d with
  |agg _ us g1 g2=>exact .agg _ us g1 (eR.flatAll g1 g2 b)
  cases b
 cases hf
def bH7{args l:eX}{c:bX}(hm:oX P ⟨f,l,c⟩)(hf:El c=Y)
  (D:∀G vs w,hE G args vs->Rel G σ w->hE (G.frozen σ w (λ_=>W)) l vs):Told P f args σ c:=by
 intro G vs w m d o a E Q H;let t:=G.frozen σ w (λ_=>W);have n:Rel t bg.none w:=⟨d.os,d.tape,d.output,d.size,λb x k=>by
   simp only[t,ca.frozen]at k;split at k;exact k;exact d.lo b x k,λ_ _=>rfl,(λid o h=>by rw[bg.sZ]at h;cases h),(λi j oi oj pi pj h=>by rw[bg.sZ]at h;cases h),λb o v hv=>Nr d (d.qE b o v hv)⟩
 refine hm bg.none t vs w (D G vs w m d) n o a E Q ?_;rintro u I σ' G' w' r z e ⟨rfl,rfl⟩;have g:=λb k=>r.bb.same b k (λid o p h=>by rw[bg.sZ]at h;cases h);have q:G'.qs=G.qs:=r.le.qs;refine H u I σ G w' ⟨.refl G,.refl _ G,ay _,⟨r.bb.size,λb k _=>g b k,λid x p h1 h2 B _=>⟨id,x,p,h1,h2,B,rfl⟩,λb x k=>.inl k,r.bb.drawn⟩⟩ (z.flat hf) ?_ ⟨rfl,rfl⟩;refine⟨e.os.trans (by rw[q]),e.tape.trans (by rw[q]),e.output.trans (by rw[q]),bD d.size r.bb.size,λb x k=>by rw[g b (d.lt k)];exact d.lo b x k,d.fresh,λid x C=>?_,d.sep,d.qE⟩;let ⟨p,s,hl⟩:=d.bF id x C;refine⟨p,s,?_⟩;rcases hl with⟨h1,h2⟩|⟨h1,h2,B,J⟩
 exact .inl ⟨h1,h2⟩;exact .inr ⟨h1,h2,B,by rw[g _ (d.r_ C s h1)];exact J⟩
end Go.Ab
