/- A part of the proof; its readable source lies in wip of the prover's repo (squeezed here for the limit of bytes). -/
import Derived.Calls
import Derived.Below
import Derived.Laws.Cells
import Derived.Laws.Rows
import Derived.Laws.StructEq
import Derived.Laws.BytesArg
import Derived.Orders
import Derived.Scope
set_option linter.all false
open Array renaming ext'->dz,ext->iG,getElem?_append->iI,getElem?_eq_getElem->aZ,getElem?_eq_none->fM,getElem?_eq_some_iff->aS,getElem?_setIfInBounds->cw,getElem_setIfInBounds->eO,mapM_eq_mapM_toList->gW,range->bf,replicate->bz
open BEq renaming rfl->lh
open BitVec renaming ofInt->de
open Bool renaming and_eq_true->ab,false_eq_true->aq,not_eq_true->dS,not_false->aW,or_eq_true->bD,true->IN,false->IS
open Decidable renaming decide->IT
open Go.Act renaming put->kp
open Go.Addr renaming add->ju
open Go.Builtin renaming append_->cT,cap_->jZ,clear_->dQ,copy_->fu,firstCells->aV,growBy->gP,lenOf->gf,len_->dH,max2->j_,min2->ka,nextslicecap->dg,zeroCells->aR
open Go.Call renaming operands->fK
open Go.Deferred renaming ofValue->i_
open Go.Instr renaming alloc->kH,build->iY,buildSlice->jE,checkKey->bK,entryStore->jG,extract->kn,field->kI,fieldAt->iu,fill->kU,findAsking->gG,findKey->gm,findNow->eJ,index->iW,indexAt->fD,keyThatStays->eZ,loadAt->fS,lookup->iH,makeSlice->jS,mapEntry->f_,mapUpdate->fU,sameBits->eC,sameNow->iw,slice->fE,sliceAt->eo,sliceBound->gF,sliceBounds->ep,storeAt->km,sureAddr->eA
open Go.IntKind renaming i64->aa
open Go.Mode renaming plain->jF
open Go.Op renaming equal->gd,equalIn->eW,intArith->lq,maxDepth->eG,operands->aL,stringOp->lr,unary->kT
open Go.Oper renaming looksAt->kJ,upon->eQ,wp->gH
open Go.Question renaming appendCap->eP,cut->jR,forced->jl
open Go.Region renaming binds->cN,wanted->dD
open Go.Result renaming andThen_ok->ah
open Go.Sem renaming run->iy,run_bind->an,run_map->lg,run_pure->ar
open Go.Value renaming int->bG
open Int renaming toNat_natCast->dG
open List renaming all_eq_true->ak,append_assoc->cx,drop_append->jQ,eq_nil_of_length_eq_zero->bu,eq_of_mem_replicate->fB,flatten_append->jm,flatten_cons->cI,foldlM_cons->jT,foldl_cons->fP,getD->iJ,getElem?_append->dp,getElem?_cons_succ->aM,getElem?_cons_zero->cX,getElem?_drop->jw,getElem?_eq_getElem->ae,getElem?_eq_none->bM,getElem?_eq_some_iff->ao,getElem?_take->jv,getElem?_toArray->dN,getElem_map->cK,getElem_mem->au,getElem_of_mem->aH,length_append->aT,length_cons->aA,length_nil->bL,length_pos_iff->da,length_take->dK,mapM_cons->ko,map_congr_left->bp,map_cons->ay,mem_cons->aI,mem_cons_of_mem->bB,mem_filterMap->dP,mem_flatten->br,mem_map->aP,modify_succ_cons->iR,modify_zero_cons->iQ,nil_append->bq,range->bo,replicate->bA,replicate_succ->jn,take->iP,take_length_add_append->gR
open List.cons renaming injEq->cG
open Nat renaming add_assoc->eH,add_comm->fF,add_mul->b_,add_zero->dW,div_add_mod->gx,div_eq_of_lt->jY,div_lt_iff_lt_mul->fY,le_add_right->aY,le_refl->aw,le_trans->bI,lt_of_lt_of_le->ed,lt_or_ge->dc,min_le_left->kq,min_le_right->kb,mod_lt->gV,mul_add_div->kl,mul_comm->eB,mul_le_mul_right->bm,sub_zero->iZ,succ_mul->kV,testBit_or->kC,zero_add->aN,zero_le->dq,zero_mul->gL
open Option renaming bind_some->eK,getD_none->fG,getD_some->cg,map_some->aj,some->U,none->No
open Option.some renaming inj->aQ,injEq->ai
open Prod.mk renaming injEq->cq
open UInt8 renaming ofNat->iX
abbrev ct:=@cond_false
abbrev dn:=@cond_true
abbrev gb:=@decide_eq_true_eq
abbrev b8:=@if_neg
abbrev b9:=@if_pos
abbrev mD:=@decide_false
abbrev j2:=@if_false
abbrev lV:=@decide_true
abbrev sK:=@of_decide_eq_true
abbrev mN:=@decide_eq_false
abbrev jj:=@if_true
abbrev lH:=@absurd
abbrev nu:=@decide_eq_false_iff_not
abbrev mw:=@decide_eq_true
abbrev mP:=@congrArg
abbrev pB:=@true_and
namespace Go.Ab
inductive ag where
 |any
 |bF (v:Value)
 |rs (es:List (List ag))
 |h8 (cs:List ag)
 |ms (id size off len:Nat)
 |mp (id i j:Nat)
 |lX (id:Nat)
 |it (id:Nat)
 |fn (f:Fn) (first cap:List ag)
 |agg (cs:List ag)
 |fe (vs:List ag)
 |ek (i:Nat)
 |ea (id size i:Nat)
 |oN (id k off:Nat)
 |xs (id size:Nat) (o l:ag)
 |mx (c:ag)
inductive b7 where
 |row (elem:TypeId) (size:Nat) (es:List (List ag))
 |map (agg:Bool) (es:List (List Int×ag×Nat)) (clock:Nat)
 |qe (s:ByteArray) (pos:Nat)
 |se (m:Option Nat) (since:Nat) (seen:List Nat) (stepped:Nat)
 |f' (elem:TypeId) (size i:Nat)
 |mS (c:ag)
 |pO (s p:ag)
 |nD (elem:TypeId) (size:Nat) (c:ag) (cc:List (Nat×TypeId×Nat)) (k:ag) (off:Nat) (v:Option ag)
structure nm where
 block:Nat
 size:Nat
 cap:Nat
 mF:Bool:=IS
structure cb where
 mr:World
 lM:Nat->Option Obj
 pl:Nat->Option nm
def cb.cell(G:cb)(b o:Nat):Option Value :=
 match G.lM b with
 |some (.cells cs _ _)=>cs[o]?
 |_=>No
structure cb.le(G G':cb):Prop where
 mr:G'.mr=G.mr
 lM:∀b o,G.lM b=U o->G'.lM b=U o
 pl:∀i p,G.pl i=U p->G'.pl i=U p
def cb.le.refl(G:cb):G.le G:=⟨rfl,λ_ _ h=>h,λ_ _ h=>h⟩
def cb.le.trans{A B C:cb}(h:A.le B)(k:B.le C):A.le C :=⟨k.mr.trans h.mr,λb o x=>k.lM b o (h.lM b o x),λi p x=>k.pl i p (h.pl i p x)⟩
def cb.le.cell{G G':cb}(h:G.le G'){b o:Nat}{v:Value}(hc:G.cell b o=U v):G'.cell b o=U v:=by
 unfold cb.cell at *;cases a:G.lM b with
 |none=>simp[a]at hc
 |some x=>rw[h.lM b x a];simpa[a]using hc
def mZ(agg:Bool)(l:List Int):Value :=if agg then .agg (l.map (bG .i64)).toArray else .int .i64 (l.headD 0)
def ag.uo:List ag->Option (List Int)
 | []=>U []
 | .bF (.int .i64 n)::cs=>match ag.uo cs with
  |some l=>U (n::l)
  |none=>No
 |_::_=>No
def ag.key:ag->Option (Bool×List Int)
 | .bF (.int .i64 n)=>U (IS,[n])
 | .agg cs=>match ag.uo cs with
  |some l=>U (IN,l)
  |none=>No
 |_=>No
def nR(j:Nat):List ag->List Int×ag×Nat
 | [k,v]=>(match k.key with|some (_,l)=>l|none=>[0],v,j)
 |_=>([0],.bF (.bool IS),j)
def nt:Nat->List (List ag)->List (List Int×ag×Nat)
 |_,[]=>[]
 |j,r::rs=>nR j r::nt (j+1) rs
def qF:List (List ag)->Bool
 | [k,_]::_=>match k.key with
  |some (b,_)=>b
  |none=>IS
 |_=>IS
inductive lB (G:cb):ag->Value->Prop
 |any (v:Value):lB G .any v
 |bF (v:Value):lB G (.bF v) v
 |qL:lB G (.rs []) (.slice No 0 0)
 |rs (es:List (List ag)) (a:Addr) (cap size:Nat) (val:Nat->Nat->Value) (hs:cap≠0->a.spot=No) (hc:es.length<=cap)
   (hlen:∀i (h:i<es.length),es[i].length=size)
   (himm:∀i j,i<es.length->j<size->G.cell a.block (a.off+i*size+j)=U (val i j))
   (hrep:∀i j (a7:i<es.length) (hj:j<es[i].length),lB G (es[i][j]) (val i j)):lB G (.rs es) (.slice (U a) es.length cap)
 |h8 (cs:List ag) (a:Addr) (val:Nat->Value) (hs:a.spot=No)
   (himm:∀j,j<cs.length->G.cell a.block (a.off+j)=U (val j))
   (hrep:∀j (hj:j<cs.length),lB G (cs[j]) (val j)):lB G (.h8 cs) (.pointer (U a))
 |ms (id size off len:Nat) (p:nm) (hp:G.pl id=U p) (hv:p.mF=IS) (hz:p.size=size) (a:Addr) (c:Nat) (ha:c≠0->a=⟨p.block,off*p.size,No⟩) (hoff:off+c=p.cap) (hl:len<=c) (hsp:a.spot=No) :
   lB G (.ms id size off len) (.slice (U a) len c)
 |n4 (id size:Nat) (p:nm) (hp:G.pl id=U p) (hv:p.mF=IN):lB G (.ms id size 0 0) (.slice No 0 0)
 |mp (id i j:Nat) (p:nm) (hp:G.pl id=U p):lB G (.mp id i j) (.pointer (U ⟨p.block,i*p.size+j,No⟩))
 |lX (id:Nat) (p:nm) (hp:G.pl id=U p):lB G (.lX id) (.map (U p.block))
 |it (id:Nat) (p:nm) (hp:G.pl id=U p):lB G (.it id) (.pointer (U ⟨p.block,0,No⟩))
 |mx (rows:List (List ag)) (b:Nat) (ents:List MapEntry) (himm:G.lM b=U (.map ents.toArray rows.length)) (hlen:ents.length=rows.length)
   (qJ:∀i (h:i<rows.length) (h':i<ents.length),ents[i].key=mZ (qF rows) (nR i rows[i]).1/\ents[i].born=i)
   (hrep:∀i (h:i<rows.length) (h':i<ents.length),lB G (nR i rows[i]).2.1 ents[i].val):lB G (.mx (.rs rows)) (.map (U b))
 |fn (f:Fn) (first cap:List ag) (fv cv:List Value) (h1:fv.length=first.length) (h2:cv.length=cap.length)
   (hf:∀i (h:i<first.length) (h':i<fv.length),lB G first[i] fv[i]) (hc:∀i (h:i<cap.length) (h':i<cv.length),lB G cap[i] cv[i]) :
   lB G (.fn f first cap) (.func f fv.toArray cv.toArray)
 |agg (cs:List ag) (vs:List Value) (h1:vs.length=cs.length) (h:∀i (h:i<cs.length) (h':i<vs.length),lB G cs[i] vs[i]):lB G (.agg cs) (.agg vs.toArray)
 |fe (cs:List ag) (vs:List Value) (h1:vs.length=cs.length) (h:∀i (h:i<cs.length) (h':i<vs.length),lB G cs[i] vs[i]):lB G (.fe cs) (.tuple vs.toArray)
def gl(G:cb)(cs:List ag)(vs:List Value):Prop:=vs.length=cs.length/\∀i (h:i<cs.length) (h':i<vs.length),lB G cs[i] vs[i]
def gl.nil(G:cb):gl G [] []:=⟨rfl,λi h=>by simp at h⟩
def gl.cons{G:cb}{c:ag}{v:Value}{cs:List ag}{vs:List Value}(h:lB G c v)(hs:gl G cs vs):gl G (c::cs) (v::vs):=by
 refine⟨by simp[hs.1],λi h1 h2=>?_⟩;cases i with
 |zero=>exact h
 |succ i=>exact hs.2 i (by simpa using h1) (by simpa using h2)
def gl.s_{G:cb}{vs:List Value}(h:gl G [] vs):vs=[]:=by have:=h.1;simpa using this
def gl.cons_inv{G:cb}{c:ag}{cs:List ag}{vs:List Value}(h:gl G (c::cs) vs):∃v a,vs=v::a/\lB G c v/\gl G cs a:=by
 cases vs with
 |nil=>have:=h.1;simp at this
 |cons v vs=>refine⟨v,vs,rfl,h.2 0 (by simp) (by simp),by have:=h.1;simpa using this,λi h1 h2=>?_⟩;have:=h.2 (i+1) (by simpa using h1) (by simpa using h2);simpa using this
def gl.append{G:cb}{cs a:List ag}{vs us:List Value}(h:gl G cs vs)(k:gl G a us):gl G (cs++a) (vs++us):=by
 induction cs generalizing vs with
 |nil=>rw[h.s_];simpa using k
 |cons c cs b=>obtain⟨v,d,rfl,h1,h2⟩:=h.cons_inv;exact(b h2).cons h1
def gl.get{G:cb}{cs:List ag}{vs:List Value}(h:gl G cs vs){i:Nat}{c:ag}(a7:cs[i]?=U c):∃v,vs[i]?=U v/\lB G c v:=by obtain⟨a,rfl⟩:=ao.1 a7;exact⟨vs[i]'(by rw[h.1];exact a),ae _,h.2 i a (by rw[h.1];exact a)⟩
def gl.drop{G:cb}{cs:List ag}{vs:List Value}(h:gl G cs vs)(n:Nat):gl G (cs.drop n) (vs.drop n):=by refine⟨by simp[h.1],λi h1 h2=>?_⟩;have:=h.2 (n+i) (by simp at h1;omega) (by simp at h2;omega);simpa using this
def gl.take{G:cb}{cs:List ag}{vs:List Value}(h:gl G cs vs)(n:Nat):gl G (cs.take n) (vs.take n):=by refine⟨by simp[h.1],λi h1 h2=>?_⟩;have:=h.2 i (by simp at h1;omega) (by simp at h2;omega);simpa using this
def lB.mono{G G':cb}(e:G.le G'){c:ag}{v:Value}(h:lB G c v):lB G' c v:=by
 induction h with
 |any v=>exact .any v
 |bF v=>exact .bF v
 |qL=>exact .qL
 |rs es a cap size val hs hc hlen himm _ d=>exact .rs es a cap size val hs hc hlen (λi j h1 h2=>e.cell (himm i j h1 h2)) d
 |h8 cs a val hs himm _ d=>exact .h8 cs a val hs (λj h=>e.cell (himm j h)) d
 |ms id size off len p hp hv hz a c ha l hl hsp=>exact .ms id size off len p (e.pl _ _ hp) hv hz a c ha l hl hsp
 |n4 id size p hp hv=>exact .n4 id size p (e.pl _ _ hp) hv
 |mp id i j p hp=>exact .mp id i j p (e.pl _ _ hp)
 |lX id p hp=>exact .lX id p (e.pl _ _ hp)
 |it id p hp=>exact .it id p (e.pl _ _ hp)
 |mx rows b ents himm hlen qJ _ d=>exact .mx rows b ents (e.lM _ _ himm) hlen qJ d
 |fn f first cap fv cv h1 h2 _ _ g k=>exact .fn f first cap fv cv h1 h2 g k
 |agg cs vs h1 _ d=>exact .agg cs vs h1 d
 |fe cs vs h1 _ d=>exact .fe cs vs h1 d
def gl.mono{G G':cb}(a:G.le G'){cs:List ag}{vs:List Value}(h:gl G cs vs):gl G' cs vs:=⟨h.1,λi h1 h2=>(h.2 i h1 h2).mono a⟩
inductive fb (α:Type) where
 |leaf
 |node (v:Option α) (l r:fb α)
def fb.get{α:Type}:fb α->Nat->Option α
 | .leaf,_=>No
 | .node v _ _,0=>v
 | .node _ l r,k+1=>match k%2 with
  | 0=>l.get (k / 2)
  |_=>r.get (k / 2)
def fb.pZ{α:Type}(v:Option α):Nat->Nat->fb α->fb α
 |_,0,.leaf=>.node v .leaf .leaf
 |_,0,.node _ l r=>.node v l r
 | 0,_+1,t=>t
 |f+1,k+1,.leaf=>match k%2 with
  | 0=>.node No (pZ v f (k / 2) .leaf) .leaf
  |_=>.node No .leaf (pZ v f (k / 2) .leaf)
 |f+1,k+1,.node x l r=>match k%2 with
  | 0=>.node x (pZ v f (k / 2) l) r
  |_=>.node x l (pZ v f (k / 2) r)
def fb.set{α:Type}(t:fb α)(k:Nat)(v:Option α):fb α:=fb.pZ v k k t
theorem fb.sc{α:Type}(i:Nat):(fb.leaf:fb α).get i=No:=by cases i<;>rfl
def fb.E1{α:Type}(v:Option α):∀(f k:Nat) (t:fb α) (i:Nat),k<=f->(fb.pZ v f k t).get i=if i=k then v else t.get i
 |f,0,.leaf,i,_=>by cases i<;>grind[fb.pZ,fb.get,fb.sc]
 |f,0,.node x l r,i,_=>by
  have:(fb.pZ v f 0 (.node x l r))=.node v l r:=by cases f<;>rfl
  rw[this];cases i with
  |zero=>rfl
  |succ i=>rw[b8 (by omega)];rfl
 | 0,k+1,t,i,h=>by omega
 |f+1,k+1,.leaf,i,h=>by
  cases i with
  |zero=>rw[b8 (by omega)];simp only[fb.pZ];split<;>rfl
  |succ i=>
   simp only[fb.pZ];have hk:k / 2<=f:=by omega
   split
   next a=>
    simp only[fb.get];split
    next b=>
     rw[fb.E1 v f (k / 2) .leaf (i / 2) hk]
     grind[fb.sc]
    grind
   rename_i a;replace a:¬k%2=0:=a;simp only[fb.get];split
   .grind
   rename_i b;replace b:¬i%2=0:=b;rw[fb.E1 v f (k / 2) .leaf (i / 2) hk]
   grind[fb.sc]
 |f+1,k+1,.node x l r,i,h=>by
  cases i with
  |zero=>rw[b8 (by omega)];simp only[fb.pZ];split<;>rfl
  |succ i=>
   simp only[fb.pZ];have hk:k / 2<=f:=by omega
   split
   next a=>
    simp only[fb.get];split
    next b=>
     rw[fb.E1 v f (k / 2) l (i / 2) hk]
     grind
    grind
   rename_i a;replace a:¬k%2=0:=a;simp only[fb.get];split
   .grind
   rename_i b;replace b:¬i%2=0:=b;rw[fb.E1 v f (k / 2) r (i / 2) hk]
   grind
def fb.E0{α:Type}(t:fb α)(k:Nat)(v:Option α)(i:Nat):(t.set k v).get i=if i=k then v else t.get i:=fb.E1 v k k t i (aw _)
structure bg where
 next:Nat
 mv:fb b7
 low:Nat:=0
def bg.bT(σ:bg)(i:Nat):Option b7:=σ.mv.get i
def oc(G:cb)(p:nm):b7->Option Obj->Prop
 | .row elem size es,a=>∃cs:Array Value,a=U (.cells cs elem (0,0))/\p.size=size/\cs.size=p.cap*size/\es.length<=p.cap /\
   ∀i (h:i<es.length),es[i].length=size/\∀j (hj:j<es[i].length) (h':i*size+j<cs.size),lB G es[i][j] cs[i*size+j]
 | .map agg es clock,a=>∃ents:Array MapEntry,a=U (.map ents clock)/\ents.size=es.length /\
   ∀i (h:i<es.length) (h':i<ents.size),ents[i].key=mZ agg es[i].1/\lB G es[i].2.1 ents[i].val/\ents[i].born=es[i].2.2
 | .qe s pos,a=>a=U (.stringIter s pos)
 | .f' _ _ _,_=>False
 | .mS _,_=>False
 | .nD ..,_=>False
 | .pO _ _,_=>False
 | .se m since seen stepped,a=>∃b,a=U (.mapIter b since seen.toArray stepped) /\
   (match m with|none=>b=No|some id=>∃p,G.pl id=U p/\b=U p.block)
def oc.mono{G G':cb}(b:G.le G'){p:nm}{o:b7}{d:Option Obj}(h:oc G p o d):oc G' p o d:=by
 cases o with
 |row elem size es=>obtain⟨cs,h1,h2,a,g,f⟩:=h;exact⟨cs,h1,h2,a,g,λi a7=>⟨(f i a7).1,λj hj h'=>((f i a7).2 j hj h').mono b⟩⟩
 |map agg es clock=>obtain⟨ents,h1,h2,a⟩:=h;exact⟨ents,h1,h2,λi a7 h'=>⟨(a i a7 h').1,(a i a7 h').2.1.mono b,(a i a7 h').2.2⟩⟩
 |qe s pos=>exact h
 |f' e s i=>exact h
 |mS c=>exact h
 |nD=>exact h
 |pO s p=>exact h
 |se m since seen stepped=>
  obtain⟨k,h1,h2⟩:=h;refine⟨k,h1,?_⟩;cases m with
  |none=>exact h2
  |some id=>obtain⟨p,hp,e⟩:=h2;exact⟨p,b.pl _ _ hp,e⟩
def oc.isSome{G:cb}{p:nm}{o:b7}{a:Option Obj}(h:oc G p o a):a.isSome=IN:=by cases o<;>grind[oc]
def GB(G:cb)(w:World)(p:nm)(o:b7):Prop :=(p.mF=IN/\∃e s,o=.row e s [])\/(p.mF=IS/\G.lM p.block=No/\G.mr.heap.size<=p.block/\oc G p o w.heap[p.block]?)
class nF where
 cell:Nat->Nat->Option Value
variable [nF]
structure Rel(G:cb)(σ:bg)(w:World):Prop where
 os:w.os=G.mr.os
 tape:w.tape=G.mr.tape
 output:w.output=G.mr.output
 size:G.mr.heap.size<=w.heap.size
 lM:∀b o,G.lM b=U o->w.heap[b]?=U o
 fresh:∀id,σ.next<=id->G.pl id=No
 bT:∀id o,σ.bT id=U o->∃p,G.pl id=U p/\GB G w p o
 sep:∀i j oi oj pi pj,σ.bT i=U oi->σ.bT j=U oj->G.pl i=U pi->G.pl j=U pj->pi.mF=IS->pj.mF=IS->pi.block=pj.block->i=j
 qV:∀b o v,nF.cell b o=U v->G.cell b o=U v
def Rel.lt{G:cb}{σ:bg}{w:World}(h:Rel G σ w){b:Nat}{o:Obj}(a:G.lM b=U o):b<w.heap.size:=by
 have:=h.lM b o a
 grind
def Rel.uv{G:cb}{σ:bg}{w:World}(h:Rel G σ w){id:Nat}{o:b7}{p:nm}(a:σ.bT id=U o)(hp:G.pl id=U p):GB G w p o:=by
 obtain⟨c,b,hl⟩:=h.bT id o a
 grind
def Rel.real{G:cb}{σ:bg}{w:World}(h:Rel G σ w){id:Nat}{o:b7}{p:nm}(a:σ.bT id=U o)(hp:G.pl id=U p)(hv:p.mF=IS) :
  G.lM p.block=No/\G.mr.heap.size<=p.block/\oc G p o w.heap[p.block]?:=by
 rcases h.uv a hp with⟨h1,_⟩|⟨_,h2⟩
 .rw[hv]at h1;cases h1
 exact h2
def Rel.ta{G:cb}{σ:bg}{w:World}(h:Rel G σ w){id:Nat}{o:b7}{p:nm}(a:σ.bT id=U o)(hp:G.pl id=U p)(hv:p.mF=IS):p.block<w.heap.size:=by
 have:=(h.real a hp hv).2.2.isSome
 grind
def Rel.R9{G:cb}{σ:bg}{w:World}(h:Rel G σ w){id:Nat}{p:nm}(hp:G.pl id=U p):id<σ.next:=by
 rcases dc id σ.next with h'|h'
 .exact h'
 rw[h.fresh id h']at hp;cases hp
def Rel.cell{G:cb}{σ:bg}{w:World}(h:Rel G σ w){b o:Nat}{v:Value}(hc:G.cell b o=U v):w.cell? ⟨b,o,No⟩=U v:=by
 unfold cb.cell at hc;cases a:G.lM b with
 |none=>simp[a]at hc
 |some x=>have:=h.lM b x a;simp only[a]at hc;cases x<;>simp at hc;simp[World.cell?,this,hc]
def Rel.drawn{G:cb}{σ:bg}{w:World}(h:Rel G σ w)(n:Nat):Rel G σ { w with drawn:=n } :=⟨h.os,h.tape,h.output,h.size,h.lM,h.fresh,h.bT,h.sep,h.qV⟩
def Rel.less{G:cb}{σ σ':bg}{w:World}(h:Rel G σ w)(a:σ'.next=σ.next)(hf:∀i o,σ'.bT i=U o->σ.bT i=U o):Rel G σ' w :=⟨h.os,h.tape,h.output,h.size,h.lM,by rw[a];exact h.fresh,λid o b=>h.bT id o (hf _ _ b),λi j oi oj pi pj h1 h2=>h.sep i j oi oj pi pj (hf _ _ h1) (hf _ _ h2),h.qV⟩
def Rel.next{G:cb}{σ:bg}{w:World}(h:Rel G σ w){n:Nat}(a:σ.next<=n):Rel G { σ with next:=n } w :=⟨h.os,h.tape,h.output,h.size,h.lM,λid hid=>h.fresh id (bI a hid),h.bT,h.sep,h.qV⟩
def cb.place(G:cb)(id:Nat)(p:nm):cb:={ G with pl:=λi=>if i=id then U p else G.pl i }
def cb.Bs{G:cb}{id:Nat}{p:nm}(h:G.pl id=No):G.le (G.place id p) :=⟨rfl,λ_ _ h=>h,λi q a=>by grind[cb.place]⟩
theorem cb.qd(G:cb)(id:Nat)(p:nm):(G.place id p).pl id=U p:=by simp[cb.place]
def bg.set(σ:bg)(id:Nat)(o:b7):bg:={ σ with mv:=σ.mv.set id (U o),low:=min σ.low id }
def bg.del(σ:bg)(id:Nat):bg:={ σ with mv:=σ.mv.set id No,low:=min σ.low id }
theorem bg.l1(σ:bg)(id:Nat)(o:b7)(i:Nat):(σ.set id o).bT i=if i=id then U o else σ.bT i:=fb.E0 _ _ _ _
theorem bg.tb(σ:bg)(id:Nat)(i:Nat):(σ.del id).bT i=if i=id then No else σ.bT i:=fb.E0 _ _ _ _
@[simp] theorem bg.F' (σ:bg) (id:Nat) (o:b7):(σ.set id o).next=σ.next:=rfl
@[simp] theorem bg.bu0 (σ:bg) (id:Nat):(σ.del id).next=σ.next:=rfl
structure Fr(G:cb)(σ:bg)(w:World)(G':cb)(σ':bg)(w':World):Prop where
 size:w.heap.size<=w'.heap.size
 same:∀b,b<w.heap.size->(∀id o p,σ.bT id=U o->G.pl id=U p->p.mF=IS->p.block≠b)->w'.heap[b]?=w.heap[b]?
 live:∀id o p,σ'.bT id=U o->G'.pl id=U p->p.mF=IS->p.block<w.heap.size->∃id0 o0 p0,σ.bT id0=U o0/\G.pl id0=U p0/\p0.mF=IS/\p0.block=p.block
 lM:∀b o,G'.lM b=U o->G.lM b=U o\/w.heap.size<=b\/∃id0 o0 p0,σ.bT id0=U o0/\G.pl id0=U p0/\p0.mF=IS/\p0.block=b
 drawn:w.drawn<=w'.drawn
def Fr.refl(G:cb)(σ:bg)(w:World):Fr G σ w G σ w :=⟨aw _,λ_ _ _=>rfl,λid o p h1 h2 a _=>⟨id,o,p,h1,h2,a,rfl⟩,λ_ _ h=>.inl h,aw _⟩
def Fr.trans{m n q:cb}{σ1 a c:bg}{g r s:World}(h:Fr m σ1 g n a r)(k:Fr n a r q c s):Fr m σ1 g q c s:=by
 refine⟨bI h.size k.size,λb i u=>?_,λid o p h1 h2 v x=>?_,λb o i=>?_,bI h.drawn k.drawn⟩
 .have hs:=h.size
  rw[k.same b (by omega) (λid o p lL fa j7 lP=>?_),h.same b i u];obtain⟨id0,o0,p0,d,e,f,t⟩:=h.live id o p lL fa j7 (by omega)
  grind
 .have hs:=h.size
  obtain⟨id0,o0,p0,d,e,f,t⟩:=k.live id o p h1 h2 v (by omega);obtain⟨j,o1,mb,t1,t2,t3,t4⟩:=h.live id0 o0 p0 d e f (by omega)
  grind
 have hs:=h.size;rcases k.lM b o i with h1|h1|⟨id0,o0,p0,d,e,f,t⟩
 .exact h.lM b o h1
 .exact .inr (.inl (by omega))
 rcases dc b g.heap.size with w|l
 .obtain⟨j,o1,mb,t1,t2,t3,t4⟩:=h.live id0 o0 p0 d e f (by omega)
  grind
 exact .inr (.inl l)
def Fr.less{G:cb}{σ σ':bg}{w:World}(hf:∀i o,σ'.bT i=U o->σ.bT i=U o):Fr G σ w G σ' w :=⟨aw _,λ_ _ _=>rfl,λid o p h1 h2 a _=>⟨id,o,p,hf _ _ h1,h2,a,rfl⟩,λ_ _ h=>.inl h,aw _⟩
def Fr.Re(G:cb)(σ:bg)(w:World)(n:Nat)(a:w.drawn<=n):Fr G σ w G σ { w with drawn:=n } :=⟨aw _,λ_ _ _=>rfl,λid o p h1 h2 b _=>⟨id,o,p,h1,h2,b,rfl⟩,λ_ _ h=>.inl h,a⟩
def Fr.push{G:cb}{σ:bg}{w:World}(obj:Obj)(id:Nat)(hid:G.pl id=No)(p:nm)(hp:p.mF=IS->p.block=w.heap.size)(o:b7)(n:Nat)(a:w.drawn<=n:=by grind) :
  Fr G σ w (G.place id p) (σ.set id o) { w with drawn:=n,heap:=w.heap.push obj }:=by
 refine⟨by simp,λb c _=>?_,λi x q h1 h2 d e=>?_,λ_ _ h=>.inl h,a⟩
 .grind
 grind[cb.qd,bg.l1,cb.place]
def Fr.mF{G:cb}{σ:bg}{w:World}(id:Nat)(p:nm)(hp:p.mF=IN)(o:b7):Fr G σ w (G.place id p) (σ.set id o) w:=by
 refine⟨aw _,λ_ _ _=>rfl,λi x q h1 h2 a b=>?_,λ_ _ h=>.inl h,aw _⟩
 grind[cb.qd,bg.l1,cb.place]
def Fr.write{G:cb}{σ:bg}{w:World}{id:Nat}{o o':b7}{p:nm}(d:σ.bT id=U o)(hp:G.pl id=U p)(hv:p.mF=IS)(w':World)(c:w'.heap.size=w.heap.size)
  (a:∀k,k≠p.block->w'.heap[k]?=w.heap[k]?) (f:w.drawn<=w'.drawn:=by exact aw _):Fr G σ w G (σ.set id o') w':=by
 refine⟨by omega,λb j g=>a b (λe=>g id o p d hp hv e.symm),λi x q h1 h2 l m=>?_,λ_ _ h=>.inl h,f⟩
 grind[bg.l1]
def Fr.move{G:cb}{σ:bg}{w:World}{id id':Nat}{o o':b7}{p:nm}(a:σ.bT id=U o)(hp:G.pl id=U p):Fr G σ w (G.place id' p) ((σ.del id).set id' o') w:=by
 refine⟨aw _,λ_ _ _=>rfl,λi x q h1 h2 b c=>?_,λ_ _ h=>.inl h,aw _⟩
 grind[cb.qd,bg.l1,bg.tb,cb.place]
def Rel.push{G:cb}{σ:bg}{w:World}(h:Rel G σ w)(obj:Obj)(id:Nat)(hid:G.pl id=No)(v:id<σ.next)(p:nm)(hp:p.block=w.heap.size)(hv:p.mF=IS)(o:b7)
  (z:oc (G.place id p) p o (U obj)):Rel (G.place id p) (σ.set id o) { w with heap:=w.heap.push obj }:=by
 have hle:G.le (G.place id p):=cb.Bs hid;have d:∀k,k<w.heap.size->(w.heap.push obj)[k]?=w.heap[k]?:=λk hk=>by grind
 have l:∀i q,i≠id->(G.place id p).pl i=U q->G.pl i=U q:=λi q a7 a=>by simpa[cb.place,a7]using a
 refine⟨h.os,h.tape,h.output,bI h.size (by simp),λb x g=>?_,λi a7=>?_,λi x c=>?_,λi j oi oj pi pj h1 h2 B C v1 v2 D=>?_,h.qV⟩
 .show (w.heap.push obj)[b]?=_
  rw[d b (h.lt g)];exact h.lM b x g
 .have:i≠id:=by simp at a7;omega
  simp only[cb.place,this,j2];exact h.fresh i a7
 .by_cases e:i=id
  .subst e
   simp[bg.l1]at c;subst c;refine⟨p,cb.qd _ _ _,.inr ⟨hv,?_,by rw[hp];exact h.size,?_⟩⟩
   .show G.lM p.block=No
    cases g:G.lM p.block with
    |none=>rfl
    |some y=>have:=h.lt g;omega
   grind[oc]
  simp[bg.l1,e]at c;obtain⟨q,a,hl⟩:=h.bT i x c;refine⟨q,hle.pl _ _ a,?_⟩;rcases hl with hl|⟨f,m,n,r⟩
  .exact .inl hl
  refine .inr ⟨f,m,n,?_⟩;show oc _ q x (w.heap.push obj)[q.block]?;rw[d _ (h.ta c a f)];exact r.mono hle
 have aux:∀i x q,i≠id->(σ.set id o).bT i=U x->(G.place id p).pl i=U q->q.mF=IS->σ.bT i=U x/\G.pl i=U q/\q.block<w.heap.size:=λi x q a7 c a hv=>by
  have h1:σ.bT i=U x:=by grind[bg.l1]
  have h2:=l i q a7 a;exact⟨h1,h2,h.ta h1 h2 hv⟩
 by_cases s:i=id<;>by_cases t:j=id
 .rw[s,t]
 .grind[cb.qd]
 .grind[cb.qd]
 have u:=aux i oi pi s h1 B v1;have a2:=aux j oj pj t h2 C v2;exact h.sep i j oi oj pi pj u.1 a2.1 u.2.1 a2.2.1 v1 v2 D
def Rel.mF{G:cb}{σ:bg}{w:World}(h:Rel G σ w)(id:Nat)(hid:G.pl id=No)(m:id<σ.next)(p:nm)(hv:p.mF=IN)(e:TypeId)(s:Nat) :
  Rel (G.place id p) (σ.set id (.row e s [])) w:=by
 have hle:G.le (G.place id p):=cb.Bs hid;have a:∀i q,i≠id->(G.place id p).pl i=U q->G.pl i=U q:=λi q a7 c=>by simpa[cb.place,a7]using c
 refine⟨h.os,h.tape,h.output,h.size,h.lM,λi a7=>?_,λi x b=>?_,λi j oi oj pi pj h1 h2 n o v1 v2 r=>?_,h.qV⟩
 .have:i≠id:=by simp at a7;omega
  simp only[cb.place,this,j2];exact h.fresh i a7
 .by_cases l:i=id
  .subst l
   simp[bg.l1]at b;subst b;exact⟨p,cb.qd _ _ _,.inl ⟨hv,e,s,rfl⟩⟩
  simp[bg.l1,l]at b;obtain⟨q,c,hl⟩:=h.bT i x b;refine⟨q,hle.pl _ _ c,?_⟩;rcases hl with hl|⟨d,f,g,k⟩
  .exact .inl hl
  exact .inr ⟨d,f,g,k.mono hle⟩
 have t:i≠id:=λe=>by grind[cb.qd]
 have u:j≠id:=λe=>by grind[cb.qd]
 exact h.sep i j oi oj pi pj (by grind[bg.l1]) (by grind[bg.l1]) (a _ _ t n) (a _ _ u o) v1 v2 r
def Rel.write{G:cb}{σ:bg}{w:World}(h:Rel G σ w){id:Nat}{o o':b7}{p:nm}(C:σ.bT id=U o)(hp:G.pl id=U p)(hv:p.mF=IS)(obj:Obj)(w':World)
  (r:w'.os=w.os) (c:w'.tape=w.tape) (g:w'.output=w.output) (d:w'.heap.size=w.heap.size)
  (a:∀k,k≠p.block->w'.heap[k]?=w.heap[k]?) (l:w'.heap[p.block]?=U obj) (s:oc G p o' (U obj)):Rel G (σ.set id o') w':=by
 obtain⟨m,t,_⟩:=h.real C hp hv;refine⟨r.trans h.os,c.trans h.tape,g.trans h.output,by rw[d];exact h.size,λb x u=>?_,h.fresh,λi x f=>?_,λi j oi oj pi pj h1 h2 E H v1 v2 I=>?_,h.qV⟩
 .rw[a b (λe=>by rw[e,m]at u;cases u)];exact h.lM b x u
 .by_cases e:i=id
  .subst e
   simp[bg.l1]at f;subst f;exact⟨p,hp,.inr ⟨hv,m,t,by rw[l];exact s⟩⟩
  simp[bg.l1,e]at f;obtain⟨q,D,hl⟩:=h.bT i x f;refine⟨q,D,?_⟩;rcases hl with hl|⟨n,v,z,B⟩
  .exact .inl hl
  refine .inr ⟨n,v,z,?_⟩;rw[a q.block (λJ=>e (h.sep i id x o q p f C D hp n hv J))];exact B
 have aux:∀i x,(σ.set id o').bT i=U x->∃y,σ.bT i=U y:=λi x f=>by grind[bg.l1]
 obtain⟨K,M⟩:=aux i oi h1;obtain⟨N,a2⟩:=aux j oj h2;exact h.sep i j K N pi pj M a2 E H v1 v2 I
def Rel.move{G:cb}{σ:bg}{w:World}(h:Rel G σ w){id id':Nat}{o:b7}{p:nm}(m:σ.bT id=U o)(hp:G.pl id=U p)(hid:G.pl id'=No)(B:id'<σ.next) :
  Rel (G.place id' p) ((σ.del id).set id' o) w:=by
 have hle:G.le (G.place id' p):=cb.Bs hid;have C:id≠id':=λe=>by rw[e,hid]at hp;cases hp
 have back:∀i x,i≠id'->((σ.del id).set id' o).bT i=U x->i≠id/\σ.bT i=U x:=λi x a7 g=>by grind[bg.l1,bg.tb]
 have a:∀i q,i≠id'->(G.place id' p).pl i=U q->G.pl i=U q:=λi q a7 n=>by simpa[cb.place,a7]using n
 have lift:∀q x,GB G w q x->GB (G.place id' p) w q x:=λq x hl=>by
  rcases hl with hl|⟨r,s,t,u⟩
  .exact .inl hl
  exact .inr ⟨r,s,t,u.mono hle⟩
 refine⟨h.os,h.tape,h.output,h.size,h.lM,λi a7=>?_,λi x g=>?_,λi j oi oj pi pj h1 h2 k l v1 v2 v=>?_,h.qV⟩
 .have:i≠id':=by simp at a7;omega
  simp only[cb.place,this,j2];exact h.fresh i a7
 .by_cases e:i=id'
  .subst e
   simp[bg.l1]at g;subst g;exact⟨p,cb.qd _ _ _,lift _ _ (h.uv m hp)⟩
  obtain⟨_,z⟩:=back i x e g;obtain⟨q,n,hl⟩:=h.bT i x z;exact⟨q,hle.pl _ _ n,lift _ _ hl⟩
 by_cases b:i=id'<;>by_cases c:j=id'
 .rw[b,c]
 .obtain⟨d,f⟩:=back j oj c h2
  subst b;rw[cb.qd]at k;cases k;exact lH (h.sep j id oj o pj p f m (a j pj c l) hp v2 v1 v.symm) d
 .obtain⟨d,f⟩:=back i oi b h1
  subst c;rw[cb.qd]at l;cases l;exact lH (h.sep i id oi o pi p f m (a i pi b k) hp v1 v2 v) d
 obtain⟨_,d⟩:=back i oi b h1;obtain⟨_,f⟩:=back j oj c h2;exact h.sep i j oi oj pi pj d f (a i pi b k) (a j pj c l) v1 v2 v
open Go
structure mL where
 fT:TypeDesc
 size:Nat
 zero:Value
 bytes:Nat
 flat:Option Nat:=No
abbrev dd:=TypeId->Option mL
def mL.isAgg(ti:mL):Bool:=match ti.fT with| .struct _| .array _ _=>IN|_=>IS
def ag.one:ag->Bool
 | .bF (.agg _)| .bF (.tuple _)| .any| .agg _| .fe _=>IS
 |_=>IN
def ag.cells:ag->Option (List ag)
 | .agg cs=>U cs
 | .fe _| .any| .bF (.agg _)| .bF (.tuple _)=>No
 |x=>U [x]
def ag.ofValue:Value->ag
 | .agg cs=>.agg (cs.toList.map .bF)
 |v=>.bF v
def mL.zeroCells(ti:mL):List ag:=ti.zero.cells.toList.map .bF
structure mc(P:Program)(T:dd):Prop where
 fT:∀t ti,T t=U ti->P.underlying t=U ti.fT
 info:∀t ti,T t=U ti->∃i,P.info? t=U i/\i.size=ti.size/\i.bytes=ti.bytes/\i.zero=U ti.zero
 DC:∀t ti,T t=U ti->ti.zero.cells.size=ti.size
 flat:∀t ti n,T t=U ti->ti.flat=U n->P.eqGuardType P.depth t=IS/\∀(az bs:List Int) (w:World),az.length=n->bs.length=n ->
  (eW 10000 t (.agg (az.map (bG .i64)).toArray) (.agg (bs.map (bG .i64)).toArray)).run P w=.ok (az==bs) w /\
  ∀b,(bK b 10000 t (.agg (az.map (bG .i64)).toArray)).run P w=.ok () w
section
variable {P:Program} {T:dd} (ca:mc P T) {t:TypeId} {ti:mL} (h:T t=U ti) (w:World)
include ca h
theorem nQ:(underlying t).run P w=.ok ti.fT w:=by simp[underlying,ca.fT t ti h]
theorem p1:(sizeOf t).run P w=.ok ti.size w:=by obtain⟨i,h1,h2,_⟩:=ca.info t ti h;simp[sizeOf,typeInfo,h1,h2]
theorem vx:(zeroValue t).run P w=.ok ti.zero w:=by obtain⟨i,h1,_,_,a⟩:=ca.info t ti h;simp[zeroValue,typeInfo,h1,a]
theorem ER:(isAgg t).run P w=.ok ti.isAgg w:=by simp only[isAgg,an,nQ ca h,ah,mL.isAgg];cases ti.fT<;>rfl
theorem M1:∃i,(typeInfo t).run P w=.ok i w/\i.bytes=ti.bytes:=by obtain⟨i,h1,_,a,_⟩:=ca.info t ti h;exact⟨i,by simp[typeInfo,h1],a⟩
end
def lB.ofValue(G:cb)(v:Value):lB G (.ofValue v) v:=by
 cases v with
 |agg cs=>have:=lB.agg (G:=G) (cs.toList.map .bF) cs.toList (by simp) (λi h h'=>by simp;exact .bF _);simpa[ag.ofValue]using this
 |_=>exact .bF _
def gl.bF(G:cb)(vs:List Value):gl G (vs.map .bF) vs:=⟨by simp,λi h h'=>by simp;exact .bF _⟩
def lB.cells{G:cb}{c:ag}{cs:List ag}{v:Value}(hc:c.cells=U cs)(h:lB G c v):gl G cs v.cells.toList:=by
 cases h with
 |agg d vs h1 h2=>simp[ag.cells]at hc;subst hc;simp[Value.cells];exact⟨h1,h2⟩
 |any=>simp[ag.cells]at hc
 |fe=>simp[ag.cells]at hc
 |bF v=>cases v<;>simp[ag.cells]at hc<;>subst hc<;>exact gl.cons (.bF _) (.nil _)
 |qL=>simp[ag.cells]at hc;subst hc;exact gl.cons .qL (.nil _)
 |rs es a cap size val hs e hlen himm hrep=>simp[ag.cells]at hc;subst hc;exact gl.cons (.rs es a cap size val hs e hlen himm hrep) (.nil _)
 |h8 d a val hs himm hrep=>simp[ag.cells]at hc;subst hc;exact gl.cons (.h8 d a val hs himm hrep) (.nil _)
 |ms id size off len p hp hv hz a c ha g hl hsp=>simp[ag.cells]at hc;subst hc;exact gl.cons (.ms id size off len p hp hv hz a c ha g hl hsp) (.nil _)
 |n4 id size p hp hv=>simp[ag.cells]at hc;subst hc;exact gl.cons (.n4 id size p hp hv) (.nil _)
 |mp id i j p hp=>simp[ag.cells]at hc;subst hc;exact gl.cons (.mp id i j p hp) (.nil _)
 |lX id p hp=>simp[ag.cells]at hc;subst hc;exact gl.cons (.lX id p hp) (.nil _)
 |it id p hp=>simp[ag.cells]at hc;subst hc;exact gl.cons (.it id p hp) (.nil _)
 |mx rows b ents himm hlen qJ hrep=>simp[ag.cells]at hc;subst hc;exact gl.cons (.mx rows b ents himm hlen qJ hrep) (.nil _)
 |fn f first cap fv cv h1 h2 k l=>simp[ag.cells]at hc;subst hc;exact gl.cons (.fn f first cap fv cv h1 h2 k l) (.nil _)
def lB.one{G:cb}{c:ag}{v:Value}(hc:c.one=IN)(h:lB G c v):v.oneCell'=IN:=by
 cases h with
 |bF v=>cases v<;>simp[ag.one]at hc<;>rfl
 |_=>first|rfl|simp[ag.one]at hc
def lE(G:cb)(σ:bg)(w:World)(σ':bg)(id:Nat)(v:ag)(r:Result Value):Prop :=∃G' u w',G.le G'/\(∀i,i≠id->G.pl i=No->G'.pl i=No)/\r=.ok u w'/\lB G' v u/\Rel G' σ' w'/\Fr G σ w G' σ' w'
theorem lE.same{G:cb}{σ:bg}{id:Nat}{v:ag}{u:Value}{w:World}(a:lB G v u)(h:Rel G σ w):lE G σ w σ id v (.ok u w) :=⟨G,u,w,.refl G,λ_ _ h=>h,rfl,a,h,.refl _ _ _⟩
def lE.place{G:cb}{σ σ':bg}{id:Nat}{v:ag}{u:Value}{w w':World}{p:nm}(hid:G.pl id=No)(a:lB (G.place id p) v u)(h:Rel (G.place id p) σ' w')(hf:Fr G σ w (G.place id p) σ' w'):lE G σ w σ' id v (.ok u w') :=⟨G.place id p,u,w',cb.Bs hid,λi a7 b=>by simpa[cb.place,a7]using b,rfl,a,h,hf⟩
theorem lE.less{G:cb}{σ σ1 σ':bg}{id:Nat}{v:ag}{r:Result Value}{w:World}(hf:∀i o,σ1.bT i=U o->σ.bT i=U o)(h:lE G σ1 w σ' id v r):lE G σ w σ' id v r:=by obtain⟨G',u,w',h1,h2,a,b,c,d⟩:=h;exact⟨G',u,w',h1,h2,a,b,c,(Fr.less hf).trans d⟩
def bm1{G:cb}{cs:List ag}{vs:Array Value}(h:gl G cs vs.toList):∀i (h:i<[cs].length),([cs][i]).length=cs.length/\∀j (hj:j<([cs][i]).length) (h':i*cs.length+j<vs.size),lB G ([cs][i][j]) vs[i*cs.length+j]:=by
 intro i a7;have:i=0:=by simpa using a7
 subst this;refine⟨rfl,λj hj h'=>?_⟩;have:=h.2 j (by simpa using hj) (by simpa using h');simpa using this
def Uv{P:Program}{G:cb}{σ:bg}{w:World}(h:Rel G σ w)(t:TypeId)(v:Value)(cs:List ag)(hc:gl G cs v.cells.toList)(id:Nat)(hid:G.pl id=No)(a:id<σ.next) :
  lE G σ w (σ.set id (.row t cs.length [cs])) id (.mp id 0 0) ((do pure (.pointer (U (<-newVar t v))):Sem Value).run P w):=by
 let p:nm:={ block:=w.heap.size,size:=cs.length,cap:=1 }
 have b:=h.push (.cells v.cells t) id hid a p rfl rfl (.row t cs.length [cs]) ⟨v.cells,rfl,rfl,by simpa[p]using hc.1,by simp[p],bm1 (hc.mono (cb.Bs hid))⟩;refine lE.place (p:=p) (w':={ w with heap:=w.heap.push (.cells v.cells t) }) hid ?_ b (Fr.push _ id hid p (λ_=>rfl) _ w.drawn);have:=lB.mp (G:=G.place id p) id 0 0 p (cb.qd _ _ _);simpa[p]using this
def zc(T:dd)(σ:bg)(id:Nat)(t:TypeId):Option (ag×bg) :=
 match T t with
 |some ti=>U (.mp id 0 0,σ.set id (.row t ti.zeroCells.length [ti.zeroCells]))
 |none=>No
def bk2{P:Program}{T:dd}(ca:mc P T){G:cb}{σ σ':bg}{w:World}(h:Rel G σ w){t:TypeId}{id:Nat}{v:ag}(hid:G.pl id=No)(a:id<σ.next)
  (ha:zc T σ id t=U (v,σ')):lE G σ w σ' id v ((kH t IN (.tuple #[])).run P w):=by
 unfold zc at ha;cases b:T t with
 |none=>simp[b]at ha
 |some ti=>simp only[b,ai,cq]at ha;obtain⟨rfl,rfl⟩:=ha;have:=Uv (P:=P) h t ti.zero ti.zeroCells (gl.bF G _) id hid a;simpa[kH,vx ca b]using this
def yi(σ:bg)(id:Nat)(t:TypeId)(x:ag):Option (ag×bg) :=
 match x.cells with
 |some cs=>U (.mp id 0 0,σ.set id (.row t cs.length [cs]))
 |none=>No
def Zw{P:Program}{G:cb}{σ σ':bg}{w:World}(h:Rel G σ w){t:TypeId}{id:Nat}{x v:ag}{u:Value}(b:lB G x u)(hid:G.pl id=No)(a:id<σ.next)
  (ha:yi σ id t x=U (v,σ')):lE G σ w σ' id v ((Instr.box t u).run P w):=by
 unfold yi at ha;cases hc:x.cells with
 |none=>simp[hc]at ha
 |some cs=>simp only[hc,ai,cq]at ha;obtain⟨rfl,rfl⟩:=ha;exact Uv (P:=P) h t u cs (b.cells hc) id hid a
def rm(ti:mL)(cs:List ag)(j:Nat):Option ag :=if ti.isAgg then(if j+ti.size<=cs.length then U (.agg ((cs.drop j).take ti.size))else No)else cs[j]?
def o8(T:dd)(σ:bg)(t:TypeId)(x:ag):Option ag :=
 match x with
 | .mp id i j=>
  match σ.bT id with
  |some (.row _ _ es)=>match es[i]? with
   |some cs=>match T t with
    |some ti=>rm ti cs j
    |none=>No
   |none=>No
  |_=>No
 | .h8 cs=>match T t with
  |some ti=>rm ti cs 0
  |none=>No
 |_=>No
def sM(b o n:Nat):(ju ⟨b,o,No⟩ n)=⟨b,o+n,No⟩:=by
 unfold ju;split
 next h=>subst h;rfl
 rfl
def En{P:Program}{T:dd}(ca:mc P T){G:cb}{w:World}{t:TypeId}{ti:mL}(d:T t=U ti)(b o:Nat)(cs:List ag)(val:Nat->Value)(j:Nat)
  (a:∀k,k<cs.length->w.cell? ⟨b,o+k,No⟩=U (val k)) (hrep:∀k (hk:k<cs.length),lB G cs[k] (val k)) {v:ag} (hl:rm ti cs j=U v) :
  ∃u,(loadVar t ⟨b,o+j,No⟩).run P w=.ok u w/\lB G v u:=by
 unfold rm at hl;by_cases ha:ti.isAgg=IN
 .rw[b9 ha]at hl
  split at hl
  next hlen=>
   cases hl;have c:=run_loadCells (P:=P) w ⟨b,o+j,No⟩ ti.size (λk=>val (j+k)) (λk hk=>by rw[sM,eH];exact a _ (by omega));refine⟨_,by simp only[loadVar,an,ER ca d,ha,jj,p1 ca d,c,ah,ar];rfl,?_⟩;have:=lB.agg (G:=G) ((cs.drop j).take ti.size) ((bo ti.size).map λk=>val (j+k)) (by simp;omega) (λi h h'=>by
    simp at h h';have:=hrep (j+i) (by omega);simpa using this)
   simpa using this
  cases hl
 rw[b8 ha]at hl;obtain⟨hj,rfl⟩:=ao.1 hl;refine⟨val j,?_,hrep j hj⟩;simp only[loadVar,an,ER ca d,dS _▸ha,ah];simp[run_load,a j hj]
def br9{P:Program}{T:dd}(ca:mc P T){G:cb}{σ:bg}{w:World}(h:Rel G σ w){t:TypeId}{id:Nat}{x v:ag}{u:Value}(r:lB G x u)
  (ha:o8 T σ t x=U v):lE G σ w σ id v ((fS t u).run P w):=by
 cases r with
 |mp id' i j p hp=>
  simp only[o8]at ha;cases g:σ.bT id' with
  |none=>simp[g]at ha
  |some o=>
   cases o with
   |row elem size es=>
    simp only[g]at ha;cases he:es[i]? with
    |none=>simp[he]at ha
    |some cs=>
     simp only[he]at ha;cases c:T t with
     |none=>simp[c]at ha
     |some ti=>
      simp only[c]at ha;obtain⟨a7,d⟩:=ao.1 he;have hv:p.mF=IS:=by
       rcases h.uv g hp with⟨_,e,s,h2⟩|⟨h2,_⟩
       .cases h2;simp at a7
       exact h2
      obtain⟨_,_,cells,z,hs,B,hle,l⟩:=h.real g hp hv;obtain⟨hlen,f⟩:=l i a7;rw[d]at hlen;have hbound:∀k,k<cs.length->i*size+k<cells.size:=λk hk=>by rw[B];have:(i+1)*size<=p.cap*size:=bm _ (by omega);rw[b_]at this;omega
      have:=En ca c (P:=P) (G:=G) (w:=w) p.block (i*p.size) cs (λk=>cells.getD (i*size+k) default) j
       (λk hk=>by
        rw[cell_of_row w _ _ cells elem _ z,hs];have:=hbound k hk;simp[this]) (λk hk=>by
        have n:=f k (by rw[d];exact hk) (hbound k hk);have:=hbound k hk;simp only[d]at n;simpa[this]using n) ha
      obtain⟨u,hu,m⟩:=this;have q:=lE.same (id:=id) (u:=u) m h;simp only[fS,eA,an,ar,ah,hu];exact q
   |_=>simp[g]at ha
 |h8 cs a val hs himm hrep=>
  simp only[o8]at ha;cases c:T t with
  |none=>simp[c]at ha
  |some ti=>simp only[c]at ha;obtain⟨b,o,s⟩:=a;simp at hs;subst hs;obtain⟨u,hu,m⟩:=En ca c (P:=P) (G:=G) (w:=w) b o cs val 0 (λk hk=>h.cell (himm k hk)) hrep ha;have q:=lE.same (id:=id) (u:=u) m h;simp only[fS,eA,an,ar,ah];rw[dW]at hu;rw[hu];exact q
 |_=>simp[o8]at ha
def J4(g:Nat):Nat->Option (List Value)
 | 0=>U []
 |n+1=>match J4 g n,nF.cell g n with
  |some l,U v=>U (l++[v])
  |_,_=>No
def SI{g:Nat}:∀ {n:Nat} {l:List Value},J4 g n=U l->l.length=n/\∀i (h:i<l.length),nF.cell g i=U l[i]
 | 0,l,h=>by cases h;exact⟨rfl,λi h=>by simp at h⟩
 |n+1,l,h=>by
  unfold J4 at h;split at h
  next l0 v h1 h2=>
   cases h;obtain⟨a,b⟩:=SI h1;refine⟨by simp[a],λi a7=>?_⟩;by_cases hl:i<l0.length
   .rw[List.getElem_append_left hl];exact b i hl
   have:i=n:=by simp at a7;omega
   subst this;rw[List.getElem_append_right (by omega)];simpa[a]using h2
  cases h
def Gp(T:dd)(t:TypeId)(g:Nat):Option ag :=
 match T t with
 |some ti=>match J4 g ti.size with
  |some l=>rm ti (l.map .bF) 0
  |none=>No
 |none=>No
def uX:ag->Option Nat
 | .bF (.pointer (U ⟨g,0,No⟩))=>U g
 |_=>No
def sQ(T:dd)(σ:bg)(t:TypeId)(x:ag):Option ag :=
 match uX x with
 |some g=>Gp T t g
 |none=>o8 T σ t x
def M5{x:ag}{g:Nat}(h:uX x=U g):x=.bF (.pointer (U ⟨g,0,No⟩)):=by
 unfold uX at h;split at h
 .cases h;rfl
 cases h
def bg5{P:Program}{T:dd}(ca:mc P T){G:cb}{σ:bg}{w:World}(h:Rel G σ w){t:TypeId}{id:Nat}{x v:ag}{u:Value}(b:lB G x u)
  (ha:sQ T σ t x=U v):lE G σ w σ id v ((fS t u).run P w):=by
 unfold sQ at ha;split at ha
 next g c=>
  rw[M5 c]at b;cases b;unfold Gp at ha;split at ha
  next ti d=>
   split at ha
   next l hl=>
    obtain⟨i,e⟩:=SI hl;obtain⟨u,hu,f⟩:=En ca d (P:=P) (G:=G) (w:=w) g 0 (l.map .bF) (λk=>l.getD k undef) 0 (λk hk=>by
     have a:k<l.length:=by simpa using hk
     rw[aN];refine h.cell (h.qV _ _ _ ?_);rw[e k a];simp[a]) (λk hk=>by
     have a:k<l.length:=by simpa using hk
     simp only[cK];have:l.getD k undef=l[k]:=by simp[a]
     rw[this];exact .bF _) ha
    have q:=lE.same (id:=id) (u:=u) f h;simp only[fS,eA,an,ar,ah];rw[dW]at hu;rw[hu];exact q
   cases ha
  cases ha
 exact br9 ca h b ha
def nK(w:World)(b:Nat)(o:Obj):World:={ w with heap:=w.heap.setIfInBounds b o }
def sn(w:World)(b:Nat)(o:Obj):(nK w b o).heap.size=w.heap.size:=by simp[nK]
def sl(w:World)(b:Nat)(o:Obj)(k:Nat)(h:k≠b):(nK w b o).heap[k]?=w.heap[k]?:=by simp[nK,cw];intro h';exact lH h'.symm h
def xu(w:World)(b:Nat)(o x:Obj)(h:w.heap[b]?=U x):(nK w b o).heap[b]?=U o:=by
 have:b<w.heap.size:=by
  rcases dc b w.heap.size with h'|h'
  .exact h'
  rw[fM h']at h;cases h
 simp[nK,cw,this]
def ay0(w:World)(b o:Nat)(v:Value)(cs:Array Value)(t:TypeId)(h:w.heap[b]?=U (.cells cs t (0,0))) :
  w.setCell ⟨b,o,No⟩ v=nK w b (.cells (cs.setIfInBounds o v) t (0,0)):=by
 have a:b<w.heap.size:=by
  rcases dc b w.heap.size with h'|h'
  .exact h'
  rw[fM h']at h;cases h
 unfold World.setCell nK;congr 1;apply iG
 .simp
 intro i h1 h2;have a7:i<w.heap.size:=by simpa using h2
 rw[Array.getElem_modify,eO a7];by_cases e:b=i
 .subst e
  have:w.heap[b]=.cells cs t (0,0):=by simpa[aZ a]using h
  simp[this]
 simp[e]
def az1(w:World)(b:Nat)(x y:Obj):nK (nK w b x) b y=nK w b y:=by simp[nK]
theorem DT{P:Program}(b:Nat)(off:Nat)(t:TypeId):∀(vs:List Value) (i:Nat) (cs:Array Value) (w:World),w.heap[b]?=U (.cells cs t (0,0))->off+i+vs.length<=cs.size ->
  (∀v∈vs,v.oneCell'=IN)->∃a:Array Value,(storeCells ⟨b,off,No⟩ vs i).run P w=.ok () (nK w b (.cells a t (0,0)))/\a.size=cs.size /\
   ∀k,a[k]?=if off+i<=k/\k<off+i+vs.length then vs[k-(off+i)]? else cs[k]?
 | [],i,cs,w,c,_,_=>by
  refine⟨cs,?_,rfl,λk=>by simp;intro h1 h2;omega⟩;have:nK w b (.cells cs t (0,0))=w:=by
   have f:b<w.heap.size:=by
    rcases dc b w.heap.size with h'|h'
    .exact h'
    rw[fM h']at c;cases c
   have l:w.heap[b]=.cells cs t (0,0):=by simpa[aZ f]using c
   unfold nK;congr 1;apply iG
   .simp
   intro j h1 h2;rw[eO h2];by_cases e:b=j
   .subst e;simp[l]
   simp[e]
  rw[this];simp[storeCells]
 |v::vs,i,cs,w,c,hlen,d=>by
  simp only[aA]at hlen;have hc:w.cell? ⟨b,off+i,No⟩=U (cs[off+i]'(by omega)):=by rw[cell_of_row w _ _ cs t _ c];exact aZ _
  have g:w.frozen? ⟨b,off+i,No⟩=IS:=frozen_of_row w b _ cs t c;have l4:(store (ju ⟨b,off,No⟩ i) v).run P w=.ok () (w.setCell ⟨b,off+i,No⟩ v):=by rw[sM,run_store P w _ v .plain (d v (by simp)),hc];simp[g]
  rw[ay0 w b _ v cs t c]at l4;obtain⟨a,h1,h2,m⟩:=DT (P:=P) b off t vs (i+1) (cs.setIfInBounds (off+i) v) (nK w b (.cells (cs.setIfInBounds (off+i) v) t (0,0)))
   (xu w b _ _ c) (by simp;omega) (λu hu=>d u (by simp[hu]))
  refine⟨a,?_,by rw[h2];simp,λk=>?_⟩
  .simp only[storeCells,an,l4,ah,h1,az1]
  rw[m k];by_cases e:k=off+i
  .subst e
   rw[b8 (by omega),b9 (by simp),cw,b9 rfl,b9 (by omega)];simp
  by_cases h:off+(i+1)<=k/\k<off+(i+1)+vs.length
  .rw[b9 h,b9 (by simp;omega)]
   obtain⟨n,o⟩:∃n,k-(off+i)=n+1:=⟨k-(off+i)-1,by omega⟩;rw[o];simp;congr 1;omega
  rw[b8 h,b8 (by simp;omega),cw,b8 (by omega)]
def p4(cs:List ag)(j:Nat)(vs:List ag):List ag:=cs.take j++vs++cs.drop (j+vs.length)
def Mu(cs:List ag)(j:Nat)(vs:List ag)(h:j+vs.length<=cs.length)(k:Nat):(p4 cs j vs)[k]?=if j<=k/\k<j+vs.length then vs[k-j]? else cs[k]?:=by
 unfold p4;rw[cx,dp];simp only[dK];by_cases h1:k<min j cs.length
 .rw[b9 h1,b8 (by omega),jv,b9 (by omega)]
 rw[b8 h1,dp];by_cases h2:k-min j cs.length<vs.length
 .rw[b9 h2,b9 (by omega)];congr 1;omega
 rw[b8 h2,b8 (by omega),jw];congr 1;omega
def aA6(cs:List ag)(j:Nat)(vs:List ag)(h:j+vs.length<=cs.length):(p4 cs j vs).length=cs.length:=by simp[p4];omega
def rA(T:dd)(σ:bg)(t:TypeId)(x v:ag):Option bg :=
 match x,v.cells,T t with
 | .mp id i j,U vs,U ti=>
  match σ.bT id with
  |some (.row elem size es)=>match es[i]? with
   |some cs=>if vs.length=ti.size/\j+vs.length<=cs.length/\vs.all ag.one=IN then U (σ.set id (.row elem size (es.set i (p4 cs j vs))))else No
   |none=>No
  |_=>No
 |_,_,_=>No
def Ul{G:cb}{size:Nat}{es:List (List ag)}{cells:Array Value}(a:∀i (h:i<es.length),es[i].length=size/\∀j (hj:j<es[i].length) (h':i*size+j<cells.size),lB G es[i][j] cells[i*size+j])
  {i j:Nat} {c:ag} {cs:List ag} (he:es[i]?=U cs) (hc:cs[j]?=U c) {v:Value} (hv:cells[i*size+j]?=U v):lB G c v:=by
 obtain⟨a7,rfl⟩:=ao.1 he;obtain⟨hj,rfl⟩:=ao.1 hc;obtain⟨hk,rfl⟩:=aS.1 hv;exact(a i a7).2 j hj hk
def br3{i a size j b:Nat}(h:i*size+j=a*size+b)(hj:j<size)(c:b<size):i=a/\j=b:=by
 have h1:(i*size+j) / size=i:=by rw[eB,kl (by omega),jY hj];simp
 have h2:(a*size+b) / size=a:=by rw[eB,kl (by omega),jY c];simp
 have:i=a:=by rw[<-h1,<-h2,h]
 subst this;exact⟨rfl,by omega⟩
def bi5{P:Program}{T:dd}(ca:mc P T){G:cb}{σ σ':bg}{w:World}(h:Rel G σ w){t:TypeId}{x v:ag}{u y:Value}(hx:lB G x u)(hy:lB G v y)
  (ha:rA T σ t x v=U σ'):∃w',(km t u y).run P w=.ok () w'/\Rel G σ' w'/\Fr G σ w G σ' w':=by
 unfold rA at ha;split at ha
 next id i j vs ti l ht=>
  split at ha
  next elem size es H=>
   split at ha
   next cs he=>
    split at ha
    next m=>
     obtain⟨h1,h2,Q⟩:=m;cases ha;cases hx with
     |mp id i j p hp=>
     have a:=hy.cells l;obtain⟨a7,I⟩:=ao.1 he;have hv:p.mF=IS:=by
      rcases h.uv H hp with⟨_,e,s,h2⟩|⟨h2,_⟩
      .cases h2;simp at a7
      exact h2
     obtain⟨_,_,cells,R,hs,S,hle,c⟩:=h.real H hp hv;have hlen:cs.length=size:=by rw[<-I];exact(c i a7).1
     have q:(i+1)*size<=cells.size:=by rw[S];exact bm _ (by omega)
     rw[b_]at q;obtain⟨n,r,J,l7⟩:=DT (P:=P) p.block (i*p.size+j) elem y.cells.toList 0 cells w R (by rw[a.1,hs];omega)
      (λz hz=>by
       obtain⟨k,hk,rfl⟩:=aH hz;have B:k<vs.length:=by rw[<-a.1];exact hk
       exact(a.2 k B hk).one (by rw[ak]at Q;exact Q _ (au B)))
     refine⟨nK w p.block (.cells n elem (0,0)),?_,h.write H hp hv (.cells n elem (0,0)) _ rfl rfl rfl (sn _ _ _) (λk hk=>sl _ _ _ _ hk) (xu _ _ _ _ R) ⟨n,rfl,hs,by rw[J,S],by simp;exact hle,λd K=>?_⟩,Fr.write H hp hv _ (sn _ _ _) (λk hk=>sl _ _ _ _ hk)⟩
     .simp only[km,eA,an,ar,ah,storeVar,p1 ca ht]
      rw[b8 (by have:=a.1;simp at this⊢;omega)];simpa using r
     have o:d<es.length:=by simpa using K
     have C:((es.set i (p4 cs j vs))[d]).length=size:=by
      rw[List.getElem_set];split
      .rw[aA6 _ _ _ h2,hlen]
      exact(c d o).1
     refine⟨C,λf M hk=>?_⟩;have D:f<size:=by rw[<-C];exact M
     have g:=l7 (d*size+f);rw[aZ hk]at g;have hL:y.cells.toList.length=vs.length:=a.1;simp only[dW,hL,hs]at g;by_cases e:d=i
     .subst e
      have E:=Mu cs j vs h2 f;have b:((es.set d (p4 cs j vs))[d])[f]?=U ((es.set d (p4 cs j vs))[d][f]):=ae _;simp only[List.getElem_set_self]at b;rw[E]at b;by_cases V:j<=f/\f<j+vs.length
      .rw[b9 V]at b
       rw[b9 (by omega)]at g;have:d*size+f-(d*size+j)=f-j:=by omega
       rw[this]at g;obtain⟨z,N,O⟩:=a.get b;rw[N]at g;cases g;simpa using O
      rw[b8 V]at b;rw[b8 (by omega)]at g;have:=Ul c he b g.symm;simpa using this
     rw[b8 (λhh=>by
      have:d*size+f=i*size+(d*size+f-i*size):=by omega
      exact e (br3 this D (by omega)).1)]at g
     have b:(es[d])[f]?=U (es[d][f]'(by rw[(c d o).1];exact D)):=ae _;have:=Ul c (ae o) b g.symm;simp only[List.getElem_set_ne (Ne.symm e)];exact this
    cases ha
   cases ha
  cases ha
 cases ha
def wx(T:dd)(s:TypeId)(x:ag)(field:Nat):Option ag :=
 match T s with
 |some { fT:=.struct fields,.. }=>
  match fields[field]? with
  |some f=>match T f.type with
   |some a=>if a.size=0 then No else
    match x with
    | .mp id i j=>U (.mp id i (j+f.offset))
    | .h8 cs=>if f.offset<=cs.length then U (.h8 (cs.drop f.offset))else No
    |_=>No
   |none=>No
  |none=>No
 |_=>No
def lB.V3{G:cb}{cs:List ag}{b o:Nat}(h:lB G (.h8 cs) (.pointer (U ⟨b,o,No⟩)))(n:Nat)(c:n<=cs.length):lB G (.h8 (cs.drop n)) (.pointer (U ⟨b,o+n,No⟩)):=by
 cases h with
 |h8 cs a val hs himm hrep=>
  refine .h8 _ _ (λj=>val (n+j)) rfl (λj hj=>?_) (λj hj=>?_)
  .grind
  grind
def aA9{P:Program}{T:dd}(ca:mc P T){G:cb}{σ:bg}{w:World}(h:Rel G σ w){s:TypeId}{id field:Nat}{x v:ag}{u:Value}(d:lB G x u)
  (ha:wx T s x field=U v):lE G σ w σ id v ((iu s u field).run P w):=by
 unfold wx at ha;split at ha
 next fields size zero bytes _ hs=>
  split at ha
  next f hf=>
   split at ha
   next l e=>
    split at ha
    .cases ha
    rename_i g;have key:∀b o,u=.pointer (U ⟨b,o,No⟩)->(iu s u field).run P w=.ok (.pointer (U ⟨b,o+f.offset,No⟩)) w:=λb o hu=>by subst hu;simp only[iu,an,nQ ca hs,ah,hf,eA,ar,fieldPlace,p1 ca e];rw[b8 g];simp[sM]
    split at ha
    next id' i j=>
     cases ha;cases d with
     |mp _ _ _ p hp=>grind[lE.same,lB.mp,eH]
    .split at ha
     next cs hle=>
      cases ha;have k:=d;cases d with
      |h8 cs a val c himm hrep=>obtain⟨b,o,sp⟩:=a;simp at c;subst c;rw[key _ _ rfl];exact lE.same (k.V3 _ hle) h
     cases ha
    cases ha
   cases ha
  cases ha
 cases ha
def xV(T:dd)(t:TypeId)(cs:List ag)(off:Nat):Option ag :=
 match T t with
 |some ti=>rm ti cs off
 |none=>No
def UK{P:Program}{T:dd}(ca:mc P T){G:cb}{w:World}{t:TypeId}{cs:List ag}{vs:List Value}(b:gl G cs vs){off:Nat}{v:ag}(ha:xV T t cs off=U v) :
  ∃u,(part t vs.toArray off).run P w=.ok u w/\lB G v u:=by
 unfold xV at ha;split at ha
 next ti d=>
  unfold rm at ha;by_cases a:ti.isAgg=IN
  .rw[b9 a]at ha
   split at ha
   next hlen=>
    cases ha;refine⟨_,by simp only[part,an,ER ca d,a,jj,p1 ca d,ah,ar];rfl,?_⟩;have c:=(b.drop off).take ti.size;have:=lB.agg (G:=G) _ _ c.1 c.2
    grind
   cases ha
  rw[b8 a]at ha;obtain⟨u,hu,c⟩:=b.get ha;refine⟨u,?_,c⟩;simp only[part,an,ER ca d,dS _▸a,ah];simp[hu]
 cases ha
def Bc(T:dd)(s:TypeId)(x:ag)(field:Nat):Option ag :=
 match T s,x with
 |some { fT:=.struct fields,.. },.agg cs=>match fields[field]? with
  |some f=>xV T f.type cs f.offset
  |none=>No
 |_,_=>No
def bi9{P:Program}{T:dd}(ca:mc P T){G:cb}{σ:bg}{w:World}(h:Rel G σ w){s:TypeId}{id field:Nat}{x v:ag}{u:Value}(a:lB G x u)
  (ha:Bc T s x field=U v):lE G σ w σ id v ((kI s u field).run P w):=by
 unfold Bc at ha;split at ha
 next fields _ _ _ _ cs hs=>
  split at ha
  next f hf=>
   cases a with
   |agg cs vs h1 h2=>obtain⟨y,b,c⟩:=UK ca (P:=P) (w:=w) ⟨h1,h2⟩ ha;simp only[kI,an,nQ ca hs,ah,hf,asAgg,ar,b];exact lE.same c h
  cases ha
 cases ha
def qf(T:dd)(t:TypeId)(x ix:ag):Option ag :=
 match T t,ix with
 |some { fT:=.slice elem,.. },.bF (.int _ n)=>
  match T elem with
  |some a=>
   match x with
   | .ms id size off len=>if 0<=n/\n<len/\size=a.size then U (.mp id (off+n.toNat) 0)else No
   | .rs es=>if 0<=n then match es[n.toNat]? with
     |some cs=>if cs.length=a.size then U (.h8 cs)else No
     |none=>No else No
   |_=>No
  |none=>No
 |some { fT:=.array len elem,.. },.bF (.int _ n)=>
  match T elem with
  |some a=>if 0<=n/\n<len then
    match x with
    | .mp id i j=>U (.mp id i (j+n.toNat*a.size))
    | .h8 cs=>if n.toNat*a.size<=cs.length then U (.h8 (cs.drop (n.toNat*a.size)))else No
    |_=>No else No
  |none=>No
 |_,_=>No
def az9{P:Program}{T:dd}(ca:mc P T){G:cb}{σ:bg}{w:World}(h:Rel G σ w){t:TypeId}{id:Nat}{x ix v:ag}{u y:Value}(d:lB G x u)(r:lB G ix y)
  (ha:qf T t x ix=U v):lE G σ w σ id v ((fD t u y).run P w):=by
 unfold qf at ha;split at ha
 next elem _ _ _ _ k n f=>
  split at ha
  next g he=>
   cases r;split at ha
   next id' size off len=>
    split at ha
    next l=>
     obtain⟨s,z,B⟩:=l;cases ha;cases d with
     |n4=>omega
     |ms _ _ _ _ p hp hv hs a c C hoff hl hsp=>
      rw[C (by omega)];simp only[fD,asIntOf,an,ar,ah,nQ ca f];rw[b9 (by omega)];simp only[an,p1 ca he,ah,ar,sM];refine lE.same ?_ h;have:=lB.mp (G:=G) id' (off+n.toNat) 0 p hp
      grind
    cases ha
   next es=>
    split at ha
    next l=>
     split at ha
     next cs m=>
      split at ha
      next hlen=>
       cases ha;obtain⟨a7,D⟩:=ao.1 m;cases d with
       |qL=>simp at a7
       |rs es a cap size val hs hc hl himm hrep=>
        have hs:=hs (by omega);obtain⟨b,o,sp⟩:=a;simp at hs;subst hs;have E:g.size=size:=by grind
        simp only[fD,asIntOf,an,ar,ah,nQ ca f];rw[b9 (by omega)];simp only[an,p1 ca he,ah,ar,sM];refine lE.same ?_ h;refine .h8 _ _ (λj=>val n.toNat j) rfl (λj hj=>?_) (λj hj=>?_)
        .grind
        grind
      cases ha
     cases ha
    cases ha
   cases ha
  cases ha
 next len elem _ _ _ _ k n f=>
  split at ha
  next g he=>
   cases r;split at ha
   next l=>
    have key:∀b o,u=.pointer (U ⟨b,o,No⟩)->(fD t u (.int k n)).run P w=.ok (.pointer (U ⟨b,o+n.toNat*g.size,No⟩)) w:=λb o hu=>by subst hu;simp only[fD,asIntOf,an,ar,ah,nQ ca f,eA];rw[b9 l];simp[p1 ca he,sM]
    split at ha
    next id' i j=>
     cases ha;cases d with
     |mp _ _ _ p hp=>rw[key _ _ rfl];refine lE.same ?_ h;have:=lB.mp (G:=G) id' i (j+n.toNat*g.size) p hp;rwa [<-eH]at this
    .split at ha
     next cs hle=>
      cases ha;have q:=d;cases d with
      |h8 cs a val e himm hrep=>obtain⟨b,o,sp⟩:=a;simp at e;subst e;rw[key _ _ rfl];exact lE.same (q.V3 _ hle) h
     cases ha
    cases ha
   cases ha
  cases ha
 cases ha
def uV(T:dd)(t:TypeId)(x ix:ag):Option ag :=
 match T t,x,ix with
 |some { fT:=.array len elem,.. },.agg cs,.bF (.int _ n)=>
  match T elem with
  |some a=>if 0<=n/\n<len then xV T elem cs (n.toNat*a.size)else No
  |none=>No
 |some { fT:=.string,.. },.bF (.string s),.bF (.int _ n)=>
  if 0<=n then match s[n.toNat]? with
   |some b=>U (.bF (.int .u8 b.toNat))
   |none=>No else No
 |_,_,_=>No
def bd5{P:Program}{T:dd}(ca:mc P T){G:cb}{σ:bg}{w:World}(h:Rel G σ w){t:TypeId}{id:Nat}{x ix v:ag}{u y:Value}(c:lB G x u)(d:lB G ix y)
  (ha:uV T t x ix=U v):lE G σ w σ id v ((iW t u y).run P w):=by
 unfold uV at ha;split at ha
 next len elem _ _ _ _ cs k n a=>
  split at ha
  next g he=>
   split at ha
   next e=>
    cases d;cases c with
    |agg cs vs h1 h2=>
     obtain⟨z,hz,i⟩:=UK ca (P:=P) (w:=w) ⟨h1,h2⟩ ha;simp only[iW,asIntOf,an,ar,ah,nQ ca a]
     grind[an,p1,ah,lE.same]
   cases ha
  cases ha
 next _ _ _ _ s k n a=>
  split at ha
  next e=>
   split at ha
   next b f=>
    cases ha;cases d;cases c;simp only[iW,asIntOf,an,ar,ah,nQ ca a,e,jj,f];exact lE.same (.bF _) h
   cases ha
  cases ha
 cases ha
def bound(len:Nat)(x:Option ag)(a:Nat):Option Nat :=
 match x with
 |none=>U a
 |some (.bF (.int _ n))=>if 0<=n/\n<=len then U n.toNat else No
 |_=>No
def qz(T:dd)(t:TypeId)(x:ag)(b5 a7 pX:Option ag):Option ag :=
 match pX,T t with
 |none,U { fT:=.slice elem,.. }=>
  match T elem,x with
  |some a,.ms id size off len=>if size=a.size then
    match bound len a7 len with
    |some h=>match bound h b5 0 with
     |some l=>U (.ms id size (off+l) (h-l))
     |none=>No
    |none=>No else No
  |some a,.rs es=>match bound es.length a7 es.length with
   |some h=>match bound h b5 0 with
    |some l=>if es.all (λc=>c.length==a.size)then U (.rs ((es.take h).drop l))else No
    |none=>No
   |none=>No
  |some _,.bF (.slice No 0 0)=>match bound 0 a7 0 with
   |some h=>match bound h b5 0 with
    |some _=>U (.bF (.slice No 0 0))
    |none=>No
   |none=>No
  |_,_=>No
 |none,U { fT:=.string,.. }=>
  match x with
  | .bF (.string s)=>match bound s.size a7 s.size with
   |some h=>match bound h b5 0 with
    |some l=>U (.bF (.string (s.extract l h)))
    |none=>No
   |none=>No
  |_=>No
 |_,_=>No
def vb(G:cb)(x:Option ag)(v:Option Value):Prop :=
 match x,v with
 |none,No=>True
 |some a,U b=>lB G a b
 |_,_=>False
def MU{G:cb}{len d n:Nat}{x:Option ag}{v:Option Value}(f:vb G x v)(c:bound len x d=U n) :
  (v=No/\n=d)\/∃k m,v=U (.int k m)/\0<=m/\m<=len/\n=m.toNat:=by
 cases x with
 |none=>
  cases v with
  |none=>simp[bound]at c;exact .inl ⟨rfl,c.symm⟩
  |some _=>exact f.elim
 |some a=>
  cases v with
  |none=>exact f.elim
  |some b=>
   simp only[vb]at f;unfold bound at c;split at c
   .cases ‹U a=No›
   next k m e=>
    cases e;split at c
    next hm=>
     cases c;cases f
     grind
    cases c
   cases c
def BV{P:Program}{G:cb}{w:World}(isSlice:Bool){len cap h l:Nat}{a7 b5:Option ag}{hv c:Option Value}(g:vb G a7 hv)(hl:vb G b5 c)(i:len<=cap)
  (j:bound len a7 len=U h) (d:bound h b5 0=U l):(ep isSlice len cap c hv No).run P w=.ok (l,h,cap) w/\h<=len/\l<=h:=by
 rcases MU g j with⟨rfl,rfl⟩|⟨k,m,rfl,h1,h2,rfl⟩
 .rcases MU hl d with⟨rfl,rfl⟩|⟨n,e,rfl,b,f,rfl⟩
  .exact⟨by simp[ep],by omega,by omega⟩
  refine⟨?_,by omega,by omega⟩;simp[ep,gF,asIntOf,b,f]
 have a:m<=(cap:Int):=by omega
 rcases MU hl d with⟨rfl,rfl⟩|⟨n,e,rfl,b,f,rfl⟩
 .exact⟨by simp[ep,gF,asIntOf,h1,a],by omega,by omega⟩
 refine⟨?_,by omega,by omega⟩;have o:e<=max m 0:=by omega
 simp[ep,gF,asIntOf,h1,a,b,o]
def bi4{P:Program}{T:dd}(ca:mc P T){G:cb}{σ:bg}{w:World}(h:Rel G σ w){t:TypeId}{id:Nat}{x v:ag}{b5 a7 pX:Option ag}{u:Value}{J hv B:Option Value}(C:lB G x u)
  (hl:vb G b5 J) (r:vb G a7 hv) (hm:vb G pX B)
  (ha:qz T t x b5 a7 pX=U v):lE G σ w σ id v ((eo t u J hv B).run P w):=by
 unfold qz at ha;split at ha
 next elem _ _ _ _ n=>
  cases B with
  |some _=>exact hm.elim
  |none=>
  split at ha
  next D i size off len he=>
   split at ha
   case isFalse=>cases ha
   rename_i E;split at ha
   next h' f=>
    split at ha
    next l g=>
     cases ha;cases C with
     |n4 _ _ p hp k=>
      obtain⟨d,q,z⟩:=BV (P:=P) (w:=w) (cap:=0) IN r hl (dq _) f g;obtain rfl:h'=0:=by omega
      obtain rfl:l=0:=by omega
      simp only[eo,fE,an,nQ ca n,ah,d,p1 ca he,ar];exact lE.same (.n4 _ _ p hp k) h
     |ms _ _ _ _ p hp k hz a c M hoff H hsp=>
      obtain⟨d,q,z⟩:=BV (P:=P) (w:=w) (cap:=c) IN r hl H f g;have I:p.size=D.size:=by rw[hz];exact E
      simp only[eo,fE,an,nQ ca n,ah,d,p1 ca he,ar];refine lE.same ?_ h;by_cases e:c=l
      .rw[b9 e]
       exact .ms _ _ _ _ p hp k hz a (c-l) (λN=>by omega) (by omega) (by omega) hsp
      rw[b8 e,M (by omega)];simp only[aj,sM];exact .ms _ _ _ _ p hp k hz _ (c-l) (λ_=>by rw[<-I,b_]) (by omega) (by omega) rfl
    cases ha
   cases ha
  next D es he=>
   split at ha
   next h' f=>
    split at ha
    next l g=>
     split at ha
     next K=>
      cases ha;cases C with
      |qL=>
       obtain⟨d,q,z⟩:=BV (P:=P) (w:=w) (cap:=0) IN r hl (dq _) f g;simp at q;subst q;obtain rfl:l=0:=by omega
       simp only[eo,fE,an,nQ ca n,ah,d,p1 ca he,ar];exact lE.same .qL h
      |rs es a cap size val hs hc hlen himm hrep=>
       obtain⟨d,q,z⟩:=BV (P:=P) (w:=w) (cap:=cap) IN r hl hc f g;obtain⟨b,o,sp⟩:=a;simp only[eo,fE,an,nQ ca n,ah,d,p1 ca he,ar];refine lE.same ?_ h;have m:((es.take h').drop l).length=h'-l:=by simp;omega
       have l7:∀i (a7:i<((es.take h').drop l).length),((es.take h').drop l)[i]=es[l+i]'(by rw[m]at a7;omega):=λi a7=>by simp
       by_cases e:cap=l
       .rw[b9 e,<-m]
        have O:h'-l=0:=by omega
        exact .rs _ _ _ size val (λh=>lH (by omega) h) (by rw[m];omega) (λi a7=>by rw[m]at a7;omega) (λi j a7=>by rw[m]at a7;omega) (λi j a7=>by rw[m]at a7;omega)
       rw[b8 e];have hs:=hs (by omega);simp at hs;subst hs;simp only[aj,sM];rw[<-m];refine .rs _ _ _ size (λi j=>val (l+i) j) (λ_=>rfl) (by rw[m];omega) (λi a7=>by rw[l7 i a7];exact hlen _ _) (λi j a7 hj=>?_) (λi j a7 hj=>?_)
       .grind
       grind
     cases ha
    cases ha
   cases ha
  next D he=>
   split at ha
   next h' f=>
    split at ha
    next l g=>
     cases ha;cases C;obtain⟨d,q,z⟩:=BV (P:=P) (w:=w) (cap:=0) IN r hl (dq _) f g;obtain rfl:h'=0:=by omega
     obtain rfl:l=0:=by omega
     simp only[eo,fE,an,nQ ca n,ah,d,p1 ca he,ar];exact lE.same (.bF _) h
    cases ha
   cases ha
  cases ha
 next _ _ _ _ n=>
  cases B with
  |some _=>exact hm.elim
  |none=>
  split at ha
  next s=>
   split at ha
   next h' f=>
    split at ha
    next l g=>
     cases ha;cases C;obtain⟨d,q,z⟩:=BV (P:=P) (w:=w) (cap:=s.size) IS r hl (aw _) f g;simp only[eo,fE,an,nQ ca n,ah,Option.isSome_none,aq,j2,d,ar];exact lE.same (.bF _) h
    cases ha
   cases ha
  cases ha
 cases ha
def ye(op:BinOp)(x y:Value):Option Value :=
 match x,y with
 | .int k a,.int c b=>
  match op with
  | .shl=>if b<0 then No else U (.int k (k.wrap (a*2^(min b.toNat k.bits))))
  | .shr=>if b<0 then No else U (.int k (a.fdiv (2^(min b.toNat k.bits))))
  |_=>if k≠c then No else
   match op with
   | .add=>U (.int k (k.wrap (a+b)))
   | .sub=>U (.int k (k.wrap (a-b)))
   | .mul=>U (.int k (k.wrap (a*b)))
   | .quo=>if b=0 then No else U (.int k (k.wrap (a.tdiv b)))
   | .rem=>if b=0 then No else U (.int k (a.tmod b))
   | .and=>U (.int k (k.wrap (de k.bits a &&& de k.bits b).toNat))
   | .or=>U (.int k (k.wrap (de k.bits a |||de k.bits b).toNat))
   | .xor=>U (.int k (k.wrap (de k.bits a ^^^ de k.bits b).toNat))
   | .andNot=>U (.int k (k.wrap (de k.bits a &&& ~~~(de k.bits b)).toNat))
   | .eql=>U (.bool (a==b))
   | .neq=>U (.bool (a != b))
   | .lss=>U (.bool (a<b))
   | .leq=>U (.bool (a<=b))
   | .gtr=>U (.bool (a > b))
   | .geq=>U (.bool (a>=b))
   |_=>No
 | .string a,.string b=>
  match op with
  | .add=>if((a.size+b.size:Nat):Int) > aa.max then No else U (.string (a++b))
  | .eql=>U (.bool (a.toList==b.toList))
  | .neq=>U (.bool !(a.toList==b.toList))
  |_=>No
 |_,_=>No
theorem Y3{P:Program}{w:World}{op:BinOp}{t:TypeId}{x y v:Value}{d e:Operand}(h:ye op x y=U v) :
  (do eqGuard op t d e x y;binOp op t x y:Sem Value).run P w=.ok v w:=by
 unfold ye at h;split at h
 .rename_i k a i b
  have f:(eqGuard op t d e (.int k a) (.int i b)).run P w=.ok () w:=by unfold eqGuard;simp
  simp only[an,f,ah];cases op
  case shl=>
   simp only[]at h;split at h
   .cases h
   rename_i c;cases h;simp[binOp,Op.shift,c]
  case shr=>
   simp only[]at h;split at h
   .cases h
   rename_i c;cases h;simp[binOp,Op.shift,c]
  all_goals
   simp only[]at h;split at h
   .cases h
   rename_i c;obtain rfl:k=i:=Classical.not_not.1 c
  case h_1.quo.isFalse=>
   split at h
   .cases h
   rename_i g;cases h;simp[binOp,Op.intDiv,g]
  case h_1.rem.isFalse=>
   split at h
   .cases h
   rename_i g;cases h;simp[binOp,Op.intDiv,g]
  all_goals
   cases h;simp[binOp,lq,Op.intBits,Op.intCmp]
 .rename_i a b
  have f:(eqGuard op t d e (.string a) (.string b)).run P w=.ok () w:=by unfold eqGuard;simp
  simp only[an,f,ah];cases op<;>simp only[]at h<;>first
   | (cases h;done)
   | (cases h;simp[binOp,lr];done)
   | (split at h<;>first| (cases h;done)| (rename_i c;cases h;simp only[binOp,lr];rw[b8 c];rfl))
 cases h
def ag.HI{G:cb}:∀ {cs:List ag} {l:List Int} {vs:List Value},ag.uo cs=U l->gl G cs vs->vs=l.map (bG .i64)
 | [],l,vs,h,a=>by simp[ag.uo]at h;subst h;rw[a.s_];rfl
 |c::cs,l,vs,h,a=>by
  obtain⟨v,b,rfl,h1,h2⟩:=a.cons_inv;unfold ag.uo at h;split at h
  next e=>cases e
  next n d e=>
   cases e;split at h
   next f hl=>
    cases h;cases h1;rw[ag.HI hl h2];rfl
   cases h
  cases h
def ag.isNil:ag->Option Bool
 | .bF (.slice No 0 0)=>U IN
 | .rs (_::_)=>U IS
 | .ms _ _ _ (_+1)=>U IS
 |_=>No
def ag.aw2{G:cb}{x:ag}{u:Value}{b:Bool}(h:x.isNil=U b)(d:lB G x u):∃a l c,u=.slice a l c/\a.isNone=b:=by
 unfold ag.isNil at h;split at h
 .cases h;cases d;exact⟨_,_,_,rfl,rfl⟩
 .cases h
  cases d;exact⟨_,_,_,rfl,rfl⟩
 .cases h
  cases d;exact⟨_,_,_,rfl,rfl⟩
 cases h
def Lw{P:Program}(w:World)(d:Nat)(t elem:TypeId)(a:Option Addr)(l c:Nat)(hu:P.underlying t=U (.slice elem)) :
  (eW (d+1) t (.slice a l c) (.slice No 0 0)).run P w=.ok a.isNone w:=by
 cases a with
 |none=>simp[eW,underlying,hu]
 |some a=>simp[eW,underlying,hu]
def qH(T:dd)(op:BinOp)(t:TypeId)(x y:ag):Option ag :=
 match x,y with
 |x,.bF (.slice No 0 0)=>
  match T t,x.isNil with
  |some { fT:=.slice _,.. },U b=>match op with
   | .eql=>U (.bF (.bool b))
   | .neq=>U (.bF (.bool !b))
   |_=>No
  |_,_=>No
 | .bF (.bool a),.bF (.bool b)=>
  match T t with
  |some { fT:=.bool,.. }=>match op with
   | .eql=>U (.bF (.bool (a==b)))
   | .neq=>U (.bF (.bool !(a==b)))
   |_=>No
  |_=>No
 | .bF a,.bF b=>match ye op a b with
  |some v=>U (.bF v)
  |none=>No
 | .agg cs,.agg c=>
  match ag.uo cs,ag.uo c,T t with
  |some az,U bs,U ti=>if ti.flat=U az.length/\bs.length=az.length then
    match op with
    | .eql=>U (.bF (.bool (az==bs)))
    | .neq=>U (.bF (.bool !(az==bs)))
    |_=>No else No
  |_,_,_=>No
 |_,_=>No
def Zi{P:Program}{T:dd}(ca:mc P T){G:cb}{σ:bg}{w:World}(h:Rel G σ w){op:BinOp}{t:TypeId}{id:Nat}{x y v:ag}{u z:Value}{g i:Operand}(j:lB G x u)(k:lB G y z)
  (ha:qH T op t x y=U v):lE G σ w σ id v ((do eqGuard op t g i u z;binOp op t u z:Sem Value).run P w):=by
 unfold qH at ha;split at ha
 .cases k
  split at ha
  next e s=>
   obtain⟨a,l,c,rfl,r⟩:=ag.aw2 s j;have f:(eqGuard op t g i (.slice a l c) (.slice No 0 0)).run P w=.ok () w:=by unfold eqGuard;simp
   simp only[an,f,ah];have hu:=ca.fT t _ e;split at ha
   .cases ha
    simp only[binOp,gd,eG,an,Lw w 9999 t _ a l c hu,ah,ar,r];exact lE.same (.bF _) h
   .cases ha
    simp only[binOp,gd,eG,an,Lw w 9999 t _ a l c hu,ah,ar,r];exact lE.same (.bF _) h
   cases ha
  cases ha
 next a b=>
  cases j;cases k;have f:(eqGuard op t g i (.bool a) (.bool b)).run P w=.ok () w:=by unfold eqGuard;simp
  simp only[an,f,ah];split at ha
  next e=>
   have hu:=ca.fT t _ e;split at ha
   .cases ha
    simp only[binOp,gd,eG,an,run_equalIn_bool' w 9999 t a b hu,ah,ar];exact lE.same (.bF _) h
   .cases ha
    simp only[binOp,gd,eG,an,run_equalIn_bool' w 9999 t a b hu,ah,ar];exact lE.same (.bF _) h
   cases ha
  cases ha
 next a b _=>
  cases j;cases k;split at ha
  next D hv=>
   cases ha;rw[Y3 hv];exact lE.same (.bF _) h
  cases ha
 next cs E=>
  split at ha
  next az bs ti h1 h2 e=>
   split at ha
   next hc=>
    obtain⟨hf,hlen⟩:=hc;obtain⟨m,heq⟩:=ca.flat t ti _ e hf;cases j with
    |agg _ xs n o=>
    cases k with
    |agg _ ys p q=>
    have B:=ag.HI h1 ⟨n,o⟩;have C:=ag.HI h2 ⟨p,q⟩;subst B C;have d:=(heq az bs w rfl hlen).1;have f:(eqGuard op t g i (.agg (az.map (bG .i64)).toArray) (.agg (bs.map (bG .i64)).toArray)).run P w=.ok () w:=by unfold eqGuard;simp[m]
    simp only[an,f,ah];split at ha
    .cases ha
     simp only[binOp,gd,eG,an,d,ah,ar];exact lE.same (.bF _) h
    .cases ha
     simp only[binOp,gd,eG,an,d,ah,ar];exact lE.same (.bF _) h
    cases ha
   cases ha
  cases ha
 cases ha
def vu(op:UnOp)(x:ag):Option ag :=
 match op,x with
 | .neg,.bF (.int k n)=>U (.bF (.int k (k.wrap (0-n))))
 | .not,.bF (.bool b)=>U (.bF (.bool !b))
 |_,_=>No
def ae9{P:Program}{G:cb}{σ:bg}{w:World}(h:Rel G σ w){op:UnOp}{id:Nat}{x v:ag}{u:Value}(a:lB G x u)(ha:vu op x=U v) :
  lE G σ w σ id v ((kT op u).run P w):=by
 unfold vu at ha;split at ha
 .cases ha;cases a
  simp only[kT,lq,ar];exact lE.same (.bF _) h
 .cases ha;cases a
  simp only[kT,ar];exact lE.same (.bF _) h
 cases ha
def w9:List (List ag)->Option (List Int)
 | []=>U []
 | [.bF (.int .u8 n)]::l=>match w9 l with
  |some a6=>U (n::a6)
  |none=>No
 |_=>No
def MX(l:List Int):ByteArray:=⟨(l.map λn=>iX n.toNat).toArray⟩
def Tq:∀ {es:List (List ag)} {a6:List Int},w9 es=U a6->a6.length=es.length/\∀i (h:i<es.length) (h':i<a6.length),es[i]=[.bF (.int .u8 a6[i])]
 | [],a6,h=>by simp only[w9,ai]at h;subst h;exact⟨rfl,λi h=>by simp at h⟩
 |r::es,a6,h=>by
  unfold w9 at h;split at h
  next e=>cases e
  next n l e=>
   cases e;split at h
   next ms hm=>
    cases h;obtain⟨h1,h2⟩:=Tq hm;refine⟨by simp[h1],λi a7 a=>?_⟩;cases i with
    |zero=>rfl
    |succ i=>simpa using h2 i (by simpa using a7) (by simpa using a)
   cases h
  cases h
def R2:∀(l:List Int) (b:ByteArray),l.foldl (λr n=>r.push (iX n.toNat)) b=⟨(b.data.toList++l.map λn=>iX n.toNat).toArray⟩
 | [],b=>by simp
 |n::l,b=>by rw[fP,R2 l];congr 1;simp[ByteArray.push]
def vR(T:dd)(src dst:TypeId)(x:ag):Option ag :=
 match T src,T dst,x with
 |some _,U { fT:=.int k,.. },.bF (.int _ n)=>U (.bF (.int k (k.wrap n)))
 |some { fT:=.slice e,.. },U { fT:=.string,.. },.rs es=>match T e with
  |some { fT:=.int .u8,.. }=>match w9 es with
   |some l=>U (.bF (.string (MX l)))
   |none=>No
  |_=>No
 |_,_,_=>No
def bs3{P:Program}{T:dd}(ca:mc P T){G:cb}{σ:bg}{w:World}(h:Rel G σ w){src dst:TypeId}{id:Nat}{x v:ag}{u:Value}(r:lB G x u)(ha:vR T src dst x=U v) :
  lE G σ w σ id v ((convert src dst u).run P w):=by
 unfold vR at ha;split at ha
 next E k _ _ _ _ H n hs g=>
  cases ha;cases r;simp only[convert,an,nQ ca hs,nQ ca g,ah,Conv.intToInt,ar];exact lE.same (.bF _) h
 next e _ _ _ _ _ _ _ _ es hs g=>
  split at ha
  next _ _ _ _ he=>
   split at ha
   next a6 i=>
    cases ha;obtain⟨g1,g2⟩:=Tq i;have s:=ca.fT _ _ hs;have t:=ca.fT _ _ g;have z:=ca.fT _ _ he;have key:(convert src dst u).run P w=.ok (.string (MX a6)) w:=by
     cases r with
     |qL=>
      have:a6=[]:=by simpa using g1
      subst this;exact run_convert_bytes_nil (w:=w) src e s z 0 0 dst t
     |rs _ a cap size val hsp hc hlen himm hrep=>
      rw[run_convert_bytes_string w src dst e _ _ _ s z t,run_bytesToString w a _ _ a6,R2]
      .rfl
      have:=run_loadCells_list (P:=P) (w:=w) a (a6.map (bG .u8)) (λj v hj=>by
       rw[List.getElem?_map]at hj;cases l:a6[j]? with
       |none=>rw[l]at hj;cases hj
       |some n=>
        rw[l]at hj;have hv:v=.int .u8 n:=(aQ hj).symm;obtain⟨d,m⟩:=ao.1 l;have c:j<es.length:=by omega
        have p:size=1:=by rw[<-hlen j c,g2 j c d];rfl
        subst p;have h1:=himm j 0 c (by omega);have h2:=hrep j 0 c (by rw[hlen j c];omega);have C:es[j][0]'(by rw[hlen j c];omega)=.bF (.int .u8 a6[j]):=by have:=g2 j c d;simp only[this,List.getElem_cons_zero]
        rw[C]at h2;generalize B:val j 0=q at h1 h2;cases h2;have D:=h.cell h1;have f:a.spot=No:=hsp (by omega);have:a.add j=⟨a.block,a.off+j*1+0,No⟩:=by obtain⟨b,o,sp⟩:=a;cases f;simp[ju]
        rw[this,D,hv,m])
      simpa[g1]using this
    rw[key];exact lE.same (.bF _) h
   cases ha
  cases ha
 cases ha
def AG(x:ag)(i:Nat):Option ag :=
 match x with
 | .fe vs=>vs[i]?
 |_=>No
def aQ4{P:Program}{G:cb}{σ:bg}{w:World}(h:Rel G σ w){i id:Nat}{x v:ag}{u:Value}(a:lB G x u)(ha:AG x i=U v) :
  lE G σ w σ id v ((kn u i).run P w):=by
 unfold AG at ha;split at ha
 .cases a with
  |fe cs vs h1 h2=>obtain⟨z,hz,b⟩:=gl.get (G:=G) ⟨h1,h2⟩ ha;simp only[kn,dN,hz,ar];exact lE.same b h
 cases ha
def tI(place:Nat->Option (Nat×Nat))(cells:List ag):List (Nat×ag)->Option (List ag)
 | []=>U cells
 | (i,v)::rest=>
  match place i,v.cells with
  |some (off,size),U vs=>if vs.length=size/\off+vs.length<=cells.length then tI place (p4 cells off vs) rest else No
  |_,_=>No
def Uu(off:Nat):∀(vs:List Value) (j:Nat) (cs:Array Value),off+j+vs.length<=cs.size ->
  ((vs.zipIdx j).foldl (λcs (x:Value×Nat)=>cs.setIfInBounds (off+x.2) x.1) cs).toList=cs.toList.take (off+j)++vs++cs.toList.drop (off+j+vs.length)
 | [],j,cs,_=>by simp
 |v::vs,j,cs,h=>by
  simp only[aA]at h;rw[List.zipIdx_cons,fP,Uu off vs (j+1) _ (by simp;omega)];have a:off+j<cs.toList.length:=by simp;omega
  simp only[Array.toList_setIfInBounds];rw[List.take_set,List.drop_set,b9 (by omega)];have b:List.set (iP (off+(j+1)) cs.toList) (off+j) v=iP (off+j) cs.toList++[v]:=by
   have hm:min (off+j) cs.toList.length=off+j:=by omega
   rw[<-eH,List.take_succ_eq_append_getElem a,List.set_append];simp only[dK,hm,Nat.lt_irrefl,j2,Nat.sub_self];rfl
  rw[b];simp;omega
def aR2{G:cb}{cs vs:List ag}{us ys:List Value}(h:gl G cs us)(hv:gl G vs ys)(off:Nat):gl G (p4 cs off vs) (us.take off++ys++us.drop (off+ys.length)):=by unfold p4;rw[hv.1];exact((h.take off).append hv).append (h.drop _)
def HV{G:cb}{place:Nat->Option (Nat×Nat)}:∀ {parts:List (Nat×ag)} {a:List (Nat×Value)} {cs out:List ag} {us:Array Value},gl G cs us.toList ->
  (parts.map (·.1)=a.map (·.1))->gl G (parts.map (·.2)) (a.map (·.2))->tI place cs parts=U out->∃ys:Array Value,kU place us a=U ys/\gl G out ys.toList
 | [],a,cs,out,us,h,he,d,ha=>by
  cases a with
  |nil=>simp[tI]at ha;subst ha;exact⟨us,rfl,h⟩
  |cons _ _=>simp at he
 | (i,v)::rest,a,cs,out,us,h,he,d,ha=>by
  cases a with
  |nil=>simp at he
  |cons p f=>
   obtain⟨m,z⟩:=p;simp only[ay,cG]at he d;obtain⟨rfl,he⟩:=he;obtain⟨n,l,e,h1,h2⟩:=d.cons_inv;simp only[cG]at e;obtain⟨rfl,rfl⟩:=e;unfold tI at ha;split at ha
   next off size vs hp hc=>
    split at ha
    next g=>
     have b:=h1.cells hc;have o:z.cells.size=vs.length:=by have:=b.1;simpa using this
     have q:us.size=cs.length:=by have:=h.1;simpa using this
     have c:((z.cells.zipIdx).foldl (λcs (x:Value×Nat)=>cs.setIfInBounds (off+x.2) x.1) us).toList=us.toList.take off++z.cells.toList++us.toList.drop (off+z.cells.toList.length):=by have:=Uu off z.cells.toList 0 us (by simp;omega);simp only[dW]at this;rw[<-this,<-Array.foldl_toList];simp
     obtain⟨ys,j,k⟩:=HV (us:=(z.cells.zipIdx).foldl (λcs (x:Value×Nat)=>cs.setIfInBounds (off+x.2) x.1) us) (by rw[c];exact aR2 h b off) he h2 ha;refine⟨ys,?_,k⟩;simp only[kU,hp];rw[b8 (by simp;omega)];exact j
    cases ha
   cases ha
def tn{α:Type}{size:Nat}:∀ {es:List (List α)},(∀c∈es,c.length=size)->es.flatten.length=es.length*size
 | [],_=>by simp
 |c::es,h=>by rw[cI,aT,tn (λc hc=>h c (by simp[hc])),h c (by simp),aA,b_];omega
def Em{α:Type}{size:Nat}:∀ {es:List (List α)},(∀c∈es,c.length=size)->∀(i j:Nat) (c:List α),es[i]?=U c->j<size->es.flatten[i*size+j]?=c[j]?
 | [],_,i,j,c,h,_=>by simp at h
 |d::es,hl,0,j,c,h,hj=>by simp at h;subst h;rw[cI,gL,aN,dp,b9 (by rw[hl d (by simp)];exact hj)]
 |d::es,hl,i+1,j,c,h,hj=>by have a:d.length=size:=hl d (by simp);have b:=Em (es:=es) (λc hc=>hl c (bB _ hc)) i j c (by simpa using h) hj;rw[cI,dp,b8 (by rw[a,b_];omega),<-b,a,b_];congr 1;omega
def Me{G:cb}{es:List (List ag)}{size:Nat}{cells:Array Value}(hl:∀c∈es,c.length=size){vs:List Value}(h:gl G es.flatten vs)(hv:∀(k:Nat) (v:Value),vs[k]?=U v->cells[k]?=U v) :
  ∀i (a7:i<es.length),es[i].length=size/\∀j (hj:j<es[i].length) (h':i*size+j<cells.size),lB G es[i][j] cells[i*size+j]:=by
 intro i a7;refine⟨hl _ (au a7),λj hj h'=>?_⟩;have a:j<size:=by grind
 have b:=Em hl i j es[i] (ae a7) a;rw[ae hj]at b;obtain⟨v,h1,h2⟩:=h.get b
 grind
def L4{G:cb}{es:List (List ag)}{size:Nat}{cells:Array Value}(a:∀i (h:i<es.length),es[i].length=size/\∀j (hj:j<es[i].length) (h':i*size+j<cells.size),lB G es[i][j] cells[i*size+j])
  (g:es.length*size<=cells.size):gl G es.flatten (cells.toList.take (es.length*size)):=by
 have hl:∀c∈es,c.length=size:=λc hc=>by obtain⟨i,a7,rfl⟩:=aH hc;exact(a i a7).1
 refine⟨by rw[tn hl];simp;omega,λk hk f=>?_⟩;rw[tn hl]at hk;by_cases hs:size=0
 .subst hs;simp at hk
 have a7:k / size<es.length:=(fY (by omega)).2 hk;have hj:k%size<size:=gV _ (by omega);have b:k / size*size+k%size=k:=by rw[eB];exact gx k size
 have d:=Em hl (k / size) (k%size) es[k / size] (ae a7) hj;have hlen:=(a _ a7).1;rw[b,ae (show k<es.flatten.length by rw[tn hl];exact hk),ae (show k%size<es[k / size].length by rw[hlen];exact hj)]at d;have e:=(a _ a7).2 (k%size) (by rw[hlen];exact hj) (by rw[b];omega);simp only[ai]at d;rw[d];simp only[b]at e;simpa using e
def RF{size:Nat}:∀ {es:List (List ag)},(∀c∈es,c.length=size)->∀(i:Nat) (vs:List ag),i<es.length->vs.length=size->p4 es.flatten (i*size) vs=(es.set i vs).flatten
 | [],_,i,vs,h,_=>by simp at h
 |d::es,hl,0,vs,_,hv=>by have a:d.length=size:=hl d (by simp);simp only[p4,cI,gL,List.take_zero,bq,aN,List.set_cons_zero,List.append_cancel_left_eq];rw[hv,<-a,List.drop_left]
 |d::es,hl,i+1,vs,h,hv=>by
  have a:d.length=size:=hl d (by simp);have e:=RF (es:=es) (λc hc=>hl c (bB _ hc)) i vs (by simpa using h) hv;simp only[List.set_cons_succ,cI,<-e,p4,hv];have b:(i+1)*size=d.length+i*size:=by rw[a,b_];omega
  have f:(i+1)*size+size=d.length+(i*size+size):=by rw[a,b_];omega
  rw[b,gR,<-b,f,jQ];simp[cx]
def uN(size:Nat)(es:List (List ag)):List (Nat×ag)->Option (List (List ag))
 | []=>U es
 | (i,v)::rest=>match v.cells with
  |some vs=>if vs.length=size/\i<es.length then uN size (es.set i vs) rest else No
  |none=>No
def RS{size:Nat}:∀ {parts:List (Nat×ag)} {es out:List (List ag)},(∀c∈es,c.length=size)->uN size es parts=U out ->
  tI (λi=>U (i*size,size)) es.flatten parts=U out.flatten/\out.length=es.length/\∀c∈out,c.length=size
 | [],es,out,hl,h=>by simp[uN]at h;subst h;exact⟨rfl,rfl,hl⟩
 | (i,v)::rest,es,out,hl,h=>by
  unfold uN at h;split at h
  next vs hc=>
   split at h
   next a=>
    have b:∀c∈es.set i vs,c.length=size:=λc hc=>by
     rcases List.mem_or_eq_of_mem_set hc with h1|h1
     .exact hl c h1
     rw[h1];exact a.1
    obtain⟨h1,h2,d⟩:=RS b h;refine⟨?_,by rw[h2];simp,d⟩;have hle:i*size+vs.length<=es.flatten.length:=by rw[tn hl,a.1];have:(i+1)*size<=es.length*size:=bm _ a.2;rw[b_]at this;omega
    simp only[tI,hc];rw[b9 ⟨a.1,hle⟩,RF hl i vs a.2 a.1];exact h1
   cases h
  cases h
def bg1(zero:Array Value)(n:Nat)(hz:0<zero.size):(((bf (n*zero.size)).map (zero[·%zero.size]!)).toList).map ag.bF=(bA n (zero.toList.map ag.bF)).flatten:=by
 apply List.ext_getElem?;intro k;have hl:∀c∈bA n (zero.toList.map ag.bF),c.length=zero.size:=λc hc=>by grind
 by_cases hk:k<n*zero.size
 .have a7:k / zero.size<n:=(fY hz).2 hk
  have hj:k%zero.size<zero.size:=gV _ hz;have a:k / zero.size*zero.size+k%zero.size=k:=by grind[eB,gx]
  have:=Em hl (k / zero.size) (k%zero.size) (zero.toList.map ag.bF) (by simp[a7]) hj
  grind
 rw[bM (by simp;omega),bM (by rw[tn hl];simp;omega)]
def places(T:dd):List Field->Option (List (Nat×Nat))
 | []=>U []
 |f::fs=>match T f.type,places T fs with
  |some a,U l=>U ((f.offset,a.size)::l)
  |_,_=>No
def run_places{P:Program}{T:dd}(ca:mc P T)(w:World):∀ {fs:List Field} {l:List (Nat×Nat)},places T fs=U l ->
  (fs.mapM (λf:Field=>do pure (f.offset,<-sizeOf f.type)):Sem (List (Nat×Nat))).run P w=.ok l w
 | [],l,h=>by simp[places]at h;subst h;simp
 |f::fs,l,h=>by
  unfold places at h;split at h
  next b c hf hl=>
   cases h;have a:=run_places ca w hl;simp only[ko,an,p1 ca hf,ah,ar,a]
  cases h
def ze(T:dd)(t:TypeId)(parts:List (Nat×ag)):Option ag :=
 match T t with
 |some { fT:=.struct fields,zero:=z,.. }=>
  match places T fields.toList with
  |some l=>match tI (l[·]?) (z.cells.toList.map .bF) parts with
   |some cs=>U (.agg cs)
   |none=>No
  |none=>No
 |some { fT:=.array _ elem,zero:=z,.. }=>
  match T elem with
  |some a=>match tI (λi=>U (i*a.size,a.size)) (z.cells.toList.map .bF) parts with
   |some cs=>U (.agg cs)
   |none=>No
  |none=>No
 |_=>No
def bg6{P:Program}{T:dd}(ca:mc P T){G:cb}{σ:bg}{w:World}(h:Rel G σ w){t:TypeId}{id:Nat}{parts:List (Nat×ag)}{a:List (Nat×Value)}{v:ag}
  (he:parts.map (·.1)=a.map (·.1)) (g:gl G (parts.map (·.2)) (a.map (·.2))) (ha:ze T t parts=U v) :
  lE G σ w σ id v ((iY t a.toArray).run P w):=by
 unfold ze at ha;split at ha
 next fields _ z _ _ d=>
  split at ha
  next l hl=>
   split at ha
   next cs hf=>
    cases ha;obtain⟨ys,c,b⟩:=HV (us:=z.cells) (gl.bF G _) he g hf;have hp:(fields.mapM (λf:Field=>do pure (f.offset,<-sizeOf f.type)):Sem (Array (Nat×Nat))).run P w=.ok l.toArray w:=by rw[gW];have:=run_places ca w hl;simp only[lg,this,ah]
    simp only[iY,an,vx ca d,nQ ca d,ah,hp,dN,c,ar];refine lE.same ?_ h;have:=lB.agg (G:=G) cs ys.toList b.1 b.2;simpa using this
   cases ha
  cases ha
 next n elem _ z _ _ d=>
  split at ha
  next i e=>
   split at ha
   next cs hf=>
    cases ha;obtain⟨ys,c,b⟩:=HV (us:=z.cells) (gl.bF G _) he g hf;simp only[iY,an,vx ca d,nQ ca d,p1 ca e,ah,c,ar];refine lE.same ?_ h;have:=lB.agg (G:=G) cs ys.toList b.1 b.2;simpa using this
   cases ha
  cases ha
 cases ha
theorem Mz{P:Program}{G:cb}{σ:bg}{w:World}(h:Rel G σ w)(t:TypeId)(cells:Array Value)(es:List (List ag))(size cap:Nat)(hl:∀c∈es,c.length=size){vs:List Value}(d:gl G es.flatten vs)
  (hv:∀(k:Nat) (v:Value),vs[k]?=U v->cells[k]?=U v) (e:cells.size=cap*size) (a:es.length<=cap) (id:Nat) (hid:G.pl id=No) (b:id<σ.next) :
  ∃p:nm,p.block=w.heap.size/\p.size=size/\p.cap=cap/\p.mF=IS/\Rel (G.place id p) (σ.set id (.row t size es)) { w with heap:=w.heap.push (.cells cells t) }:=by
 refine⟨{ block:=w.heap.size,size:=size,cap:=cap },rfl,rfl,rfl,rfl,?_⟩;exact h.push (.cells cells t) id hid b _ rfl rfl (.row t size es) ⟨cells,rfl,rfl,e,a,Me hl (d.mono (cb.Bs hid)) hv⟩
def vh(T:dd)(σ:bg)(id:Nat)(t:TypeId)(len:Nat)(parts:List (Nat×ag)):Option (ag×bg) :=
 match T t with
 |some { fT:=.slice elem,.. }=>
  match T elem with
  |some a=>if len*a.size<=2^24/\0<a.size then
    match uN a.size (bA len a.zeroCells) parts with
    |some es=>U (.ms id a.size 0 len,σ.set id (.row elem a.size es))
    |none=>No else No
  |none=>No
 |_=>No
theorem ax6{P:Program}{T:dd}(ca:mc P T){G:cb}{σ σ':bg}{w:World}(h:Rel G σ w){t:TypeId}{id len:Nat}{parts:List (Nat×ag)}{a:List (Nat×Value)}{v:ag}
  (he:parts.map (·.1)=a.map (·.1)) (D:gl G (parts.map (·.2)) (a.map (·.2))) (hid:G.pl id=No) (r:id<σ.next) (ha:vh T σ id t len parts=U (v,σ')) :
  lE G σ w σ' id v ((jE t len a.toArray).run P w):=by
 unfold vh at ha;split at ha
 .rename_i elem _ _ _ _ E
  split at ha
  .rename_i b g
   split at ha
   .rename_i H
    split at ha
    .rename_i es hes
     cases ha;have i:=ca.DC elem b g;have s:∀c∈bA len b.zeroCells,c.length=b.size:=λc hc=>by rw[fB hc];simp[mL.zeroCells,i]
     obtain⟨j,hlen,hl⟩:=RS s hes;have u:=bg1 b.zero.cells len (by omega);have l:es.length=len:=by rw[hlen];simp
     obtain⟨ys,m,n⟩:=HV (us:=(bf (len*b.zero.cells.size)).map (b.zero.cells[·%b.zero.cells.size]!)) (by
      have:=gl.bF G ((bf (len*b.zero.cells.size)).map (b.zero.cells[·%b.zero.cells.size]!)).toList;rw[u]at this;exact this) he D j
     have x:ys.size=len*b.size:=by have:=n.1;rw[tn hl,l]at this;simpa using this
     obtain⟨p,o,z,B,C,q⟩:=Mz (P:=P) h elem ys es b.size len hl n (λk v hv=>by simpa using hv) x (by omega) id hid r;have f:lE G σ w (σ.set id (.row elem b.size es)) id (.ms id b.size 0 len) (.ok (.slice (U ⟨w.heap.size,0,No⟩) len len) { w with heap:=w.heap.push (.cells ys elem) }):=by refine lE.place (p:=p) hid ?_ q (Fr.push _ id hid p (λ_=>o) _ w.drawn);exact .ms id _ 0 len p (cb.qd _ _ _) C z _ len (λ_=>by rw[o];simp) (by rw[B];simp) (aw _) rfl
     simp only[jE,an,nQ ca E,p1 ca g,ah];rw[b8 (by omega)];rw[i]at m;by_cases e:len*b.size=0
     .simp only[e,jj,an,ar,ah]
      have d:(bf 0).map ((#[]:Array Value)[·%(#[]:Array Value).size]!)=(bf (len*b.size)).map (b.zero.cells[·%b.size]!):=by simp[e]
      rw[d,m];simpa[newRow]using f
     simp only[e,j2,an,ar,ah,vx ca g,i,m,newRow,run_newObj];exact f
    cases ha
   cases ha
  cases ha
 cases ha
def nV(σ:bg):ag->Option (List (List ag))
 | .ms id _ off len=>match σ.bT id with
  |some (.row _ _ es)=>if off+len<=es.length then U ((es.drop off).take len)else No
  |_=>No
 | .rs es=>U es
 | .bF (.slice No 0 0)=>U []
 |_=>No
def Sf{α:Type}{size:Nat}:∀ {es:List (List α)},(∀c∈es,c.length=size)->∀n,es.flatten.take (n*size)=(es.take n).flatten
 | [],_,n=>by simp
 |d::es,hl,0=>by simp
 |d::es,hl,n+1=>by
  have a:d.length=size:=hl d (by simp);have b:(n+1)*size=d.length+n*size:=by rw[a,b_];omega
  rw[cI,b,gR,Sf (λc hc=>hl c (bB _ hc)) n];simp
def RZ{α:Type}{size:Nat}:∀ {es:List (List α)},(∀c∈es,c.length=size)->∀n,es.flatten.drop (n*size)=(es.drop n).flatten
 | [],_,n=>by simp
 |d::es,hl,0=>by simp
 |d::es,hl,n+1=>by
  have a:d.length=size:=hl d (by simp);have b:(n+1)*size=d.length+n*size:=by rw[a,b_];omega
  rw[cI,b,jQ,Nat.add_sub_cancel_left,RZ (λc hc=>hl c (bB _ hc)) n];simp
def Ka{P:Program}{G:cb}{σ:bg}{w:World}(h:Rel G σ w){x:ag}{u:Value}(D:lB G x u){es:List (List ag)}(hs:nV σ x=U es)(size:Nat)(hl:∀c∈es,c.length=size) :
  (∃a c,u=.slice a es.length c)/\∃vs:List Value,(aV size es.length u).run P w=.ok vs.toArray w/\gl G es.flatten vs:=by
 unfold nV at hs;split at hs
 next id _ off len=>
  split at hs
  next elem d all J=>
   split at hs
   next hle=>
    cases hs;have hlen:((all.drop off).take len).length=len:=by simp;omega
    rw[hlen];cases D with
    |n4 _ _ p hp hv=>refine⟨⟨_,_,rfl⟩,[],by simp[aV],?_⟩;simp;exact .nil _
    |ms _ _ _ _ p hp hv hz a c K hoff M hsp=>
     refine⟨⟨_,_,rfl⟩,?_⟩;obtain⟨_,_,cells,N,E,O,t,m⟩:=h.real J hp hv;have f:∀c∈all,c.length=d:=λc hc=>by obtain⟨i,a7,rfl⟩:=aH hc;exact(m i a7).1
     by_cases z:len=0
     .subst z
      refine⟨[],by simp[aV,loadCells,loadCellsFrom],?_⟩;simp;exact .nil _
     have r:d=size:=by
      have hm:all[off]'(by omega)∈(all.drop off).take len:=by have:=au (l:=(all.drop off).take len) (n:=0) (by rw[hlen];omega);simpa using this
      rw[<-hl _ hm];exact(f _ (au _)).symm
     subst r;have B:all.length*d<=cells.size:=by rw[O];exact bm _ t
     have s:=L4 m B;have q:=(s.drop (off*d)).take (len*d);rw[RZ f,Sf (λc hc=>f c (List.mem_of_mem_drop hc))]at q;have hmul:off*d+len*d<=all.length*d:=by rw[<-b_];exact bm _ hle
     refine⟨_,?_,q⟩;have Q:(iP (len*d) (List.drop (off*d) (iP (all.length*d) cells.toList))).length=len*d:=by simp;omega
     simp only[aV];rw[K (by omega),E]
     conv=>lhs;rw[<-Q]
     refine run_loadCells_list (P:=P) w _ _ (λj v hv=>?_);rw[sM,cell_of_row w _ _ cells elem _ N];simp only[jv,jw]at hv;split at hv
     .split at hv
      .simpa using hv
      cases hv
     cases hv
   cases hs
  cases hs
 .cases hs
  cases D with
  |qL=>exact⟨⟨_,_,rfl⟩,[],by simp[aV],.nil _⟩
  |rs es a cap d val hsp hc hlen himm hrep=>
   refine⟨⟨_,_,rfl⟩,?_⟩;obtain⟨b,o,sp⟩:=a;by_cases z:es=[]
   .subst z
    exact⟨[],by simp[aV,loadCells,loadCellsFrom],.nil _⟩
   have hsp:=hsp (by have h1:0<es.length:=da.2 z;omega);simp at hsp;subst hsp;have r:d=size:=by have h1:0<es.length:=da.2 z;rw[<-hlen 0 h1];exact hl _ (au _)
   subst r;have g:∀k,k<es.length*d->k / d<es.length/\k%d<d/\k / d*d+k%d=k:=λk hk=>by
    have hp:0<d:=by
     rcases Nat.eq_zero_or_pos d with e|e
     .subst e;simp at hk
     exact e
    exact⟨(fY hp).2 hk,gV _ hp,by rw[eB];exact gx k d⟩
   refine⟨(bo (es.length*d)).map (λk=>val (k / d) (k%d)),?_,?_⟩
   .simp only[aV]
    refine run_loadCells (P:=P) w _ _ _ (λk hk=>?_);obtain⟨h1,h2,H⟩:=g k hk;rw[sM];have:=h.cell (himm (k / d) (k%d) h1 h2);rwa [eH,H]at this
   refine⟨by rw[tn hl];simp,λk hk R=>?_⟩;rw[tn hl]at hk;obtain⟨h1,h2,H⟩:=g k hk;have I:=Em hl (k / d) (k%d) es[k / d] (ae h1) h2;have C:=hlen _ h1;rw[H,ae (show k<es.flatten.length by rw[tn hl];exact hk),ae (show k%d<es[k / d].length by rw[C];exact h2)]at I;simp only[ai]at I;rw[I];have:=hrep (k / d) (k%d) h1 (by rw[C];exact h2);simpa using this
 .cases hs
  cases D;exact⟨⟨_,_,rfl⟩,[],by simp[aV],.nil _⟩
 cases hs
def mL.isInt(ti:mL):Bool:=match ti.fT with| .int _=>IN|_=>IS
def qT(σ:bg)(elem:TypeId)(size:Nat):ag->Option (Option Nat×List (List ag))
 | .ms id _ 0 len=>match σ.bT id with
  |some (.row e a es)=>if len=es.length/\a=size/\e=elem then U (U id,es)else No
  |_=>No
 | .bF (.slice No 0 0)=>U (No,[])
 |_=>No
def rR(T:dd)(σ:bg)(id:Nat)(sT xT:TypeId)(s x:ag):Option (ag×bg) :=
 match T sT,T xT with
 |some { fT:=.slice elem,.. },U d=>
  match T elem with
  |some a=>
   match qT σ elem a.size s,nV σ x with
   |some (b,es),U xs=>
    if d.isInt=IS/\(xs.all λc=>c.length==a.size&&c.all ag.one)=IN/\(2*(es.length+xs.length)+1000)*a.bytes<=2^48/\es.length+xs.length<=2^62/\0<a.size then
     U (.ms id a.size 0 (es.length+xs.length),(match b with|some i=>σ.del i|none=>σ).set id (.row elem a.size (es++xs)))else No
   |_,_=>No
  |none=>No
 |_,_=>No
theorem TF(n:Nat):∀(r c:Nat),c<=2*n+192->gP n r c<=2*n+192
 | 0,c,h=>by simpa[gP]using h
 |r+1,c,h=>by
  unfold gP;split
  .exact h
  exact TF n r _ (by omega)
def Te{n c:Nat}(h:c<n):dg n c<=2*n+192:=by
 unfold dg
 grind[TF]
def run_append_room{P:Program}{T:dd}(ca:mc P T){w:World}{sT xT elem:TypeId}{st g h:mL}(hs:T sT=U st)(hu:st.fT=.slice elem)(l:T xT=U g)(a7:g.isInt=IS)(he:T elem=U h)
  (base:Option Addr) (b c n:Nat) (j:Option Addr) (k:Nat) (vs:Array Value) (d:(aV h.size n (.slice j n k)).run P w=.ok vs w) (e:b+n<=c) (ty:TypeId) :
  (cT #[sT,xT] ty #[.slice base b c,.slice j n k]).run P w =
   (((match base with|some a=>storeCells (a.add (b*h.size)) vs.toList|none=>pure ()):Sem Unit).run P w).andThen (λ_ w'=>.ok (.slice base (b+n) c) w'):=by
 have hz:((match g.fT with| .int _=>IN|_=>IS):Bool)=IS:=a7;have f:(underlying sT).run P w=.ok (.slice elem) w:=by rw[nQ ca hs,hu]
 unfold cT;simp[an,f,ah,p1 ca he,nQ ca l,ar];cases i:g.fT<;>simp[mL.isInt,i]at a7<;>first
  | (cases a7;done)
  | (simp[aq,gf,an,ah,e,aW,d];cases base<;>simp)
def run_append_grow{P:Program}{T:dd}(ca:mc P T){w:World}{sT xT elem:TypeId}{st o e:mL}(hs:T sT=U st)(hu:st.fT=.slice elem)(x:T xT=U o)(a7:o.isInt=IS)(he:T elem=U e)
  (base:Option Addr) (a b n:Nat) (t:Option Addr) (u:Nat) (us vs:Array Value)
  (hold:∀k,(aV e.size a (.slice base a b)).run P { w with drawn:=k }=.ok us { w with drawn:=k })
  (f:∀k,(aV e.size n (.slice t n u)).run P { w with drawn:=k }=.ok vs { w with drawn:=k })
  (c:b<a+n) (B:(2*(a+n)+1000)*e.bytes<=2^48) (C:a+n<=2^62) (ty:TypeId) :
  ∃newCap,a+n<=newCap/\(cT #[sT,xT] ty #[.slice base a b,.slice t n u]).run P w =
   .ok (.slice (U ⟨w.heap.size,0,No⟩) (a+n) newCap) { w with drawn:=w.drawn+1,heap:=w.heap.push (.cells (us++vs++aR e.zero.cells (newCap-(a+n))) elem) }:=by
 have g:∀k,(underlying sT).run P { w with drawn:=k }=.ok (.slice elem) { w with drawn:=k }:=λk=>by rw[nQ ca hs,hu]
 obtain⟨i,h,p⟩:=M1 ca he w;have l:∀w',(typeInfo elem).run P w'=.ok i w':=λw'=>by
  obtain⟨j,hj,_⟩:=ca.info elem e he;have:(typeInfo elem).run P w=.ok j w:=by simp[typeInfo,hj]
  rw[this]at h;cases h;simp[typeInfo,hj]
 have v:=Te c;have d:¬(dg (a+n) b*i.bytes > 2^48):=by rw[p];have:dg (a+n) b*e.bytes<=(2*(a+n)+1000)*e.bytes:=bm _ (by omega);omega
 refine⟨(eP (a+n) b elem).cut (w.tape w.drawn (.appendCap (a+n) b elem)),by simp only[jR];omega,?_⟩;have z:=g w.drawn;have q:=hold (w.drawn+1);have r:=f (w.drawn+1);have m:¬(((a+n:Nat):Int) > aa.max/\(False\/i.bytes=0)):=by
  have:aa.max=9223372036854775807:=by decide
  rw[this];omega
 unfold cT;simp only[dN,cX,aM,an,z,ah,p1 ca he,nQ ca x,ar];cases s:o.fT<;>simp[mL.isInt,s]at a7<;>first
  | (cases a7;done)
  | (simp only[aq,j2,gf,an,ar,ah,b8 (Nat.not_le.2 c),aW,jj,l,b8 m,b8 d,run_choose,jl,run_askRoom,q,r,vx ca he,newRow,run_newObj])
def Lg{P:Program}(w:World)(k:Nat)(a:Addr):∀(n i:Nat) (acc vs:Array Value),(loadCellsFrom a i n acc).run P w=.ok vs w->(loadCellsFrom a i n acc).run P { w with drawn:=k }=.ok vs { w with drawn:=k }
 | 0,i,acc,vs,h=>by simp[loadCellsFrom]at h⊢;exact h
 |n+1,i,acc,vs,h=>by
  simp[loadCellsFrom,an,run_load]at h⊢;have hc:({ w with drawn:=k }:World).cell? (a.add i)=w.cell? (a.add i):=rfl;rw[hc];cases hw:w.cell? (a.add i)with
  |some v=>simp[hw,ah]at h⊢;exact Lg w k a n (i+1) _ vs h
  |none=>
   simp[hw]at h⊢;have hf:({ w with drawn:=k }:World).farLoad P (a.add i) (jF==.atomic)=w.farLoad P (a.add i) (jF==.atomic):=rfl;rw[hf];cases b:w.farLoad P (a.add i) (jF==.atomic)with
   |ok r=>obtain⟨v,l⟩:=r;simp[b,ah]at h⊢;exact Lg w k a n (i+1) _ vs h
   |error e=>simp[b]at h
theorem Rn{P:Program}(w:World)(k:Nat)(a:Addr)(n:Nat)(vs:Array Value)(h:(loadCells a n).run P w=.ok vs w):(loadCells a n).run P { w with drawn:=k }=.ok vs { w with drawn:=k } :=Lg w k a n 0 #[] vs h
theorem EX{σ:bg}{i k:Nat}{o:b7}(h:(σ.del i).bT k=U o):σ.bT k=U o:=by grind[bg.tb]
def ay4(zero:Array Value)(n:Nat):(aR zero n).size=n*zero.size:=by simp[aR]
theorem GL{P:Program}{T:dd}(ca:mc P T){G:cb}{σ:bg}{w:World}(h:Rel G σ w){elem:TypeId}{a:mL}(he:T elem=U a){id:Nat}(hid:G.pl id=No)(f:id<σ.next)
  {es xs:List (List ag)} (hes:∀c∈es,c.length=a.size) (g:∀c∈xs,c.length=a.size) {us vs:List Value} (hu:gl G es.flatten us) (hv:gl G xs.flatten vs) {newCap:Nat} (hc:es.length+xs.length<=newCap) :
  lE G σ w (σ.set id (.row elem a.size (es++xs))) id (.ms id a.size 0 (es.length+xs.length)) (.ok (.slice (U ⟨w.heap.size,0,No⟩) (es.length+xs.length) newCap)
   { w with drawn:=w.drawn+1,heap:=w.heap.push (.cells (us.toArray++vs.toArray++aR a.zero.cells (newCap-(es.length+xs.length))) elem) }):=by
 have b:∀c∈es++xs,c.length=a.size:=λc hc=>by grind
 have i:us.length=es.length*a.size:=by rw[hu.1,tn hes]
 have j:vs.length=xs.length*a.size:=by rw[hv.1,tn g]
 have hz:=ca.DC elem a he;obtain⟨p,d,l,m,n,e⟩:=Mz (P:=P) (h.drawn (w.drawn+1)) elem (us.toArray++vs.toArray++aR a.zero.cells (newCap-(es.length+xs.length))) (es++xs) a.size newCap b
  (vs:=us++vs) (by rw[jm];exact hu.append hv) (λk v hk=>by grind) (by
   simp[ay4,hz,i,j];rw[<-b_,<-b_];congr 1;omega) (by simp;omega) id hid f
 refine lE.place (p:=p) hid ?_ e (Fr.push (w:=w) _ id hid p (λ_=>d) _ (w.drawn+1));exact .ms id _ 0 _ p (cb.qd _ _ _) n l _ newCap (λ_=>by rw[d];simp) (by rw[m];simp) hc rfl
def be1{P:Program}{T:dd}(ca:mc P T){G:cb}{σ σ':bg}{w:World}(h:Rel G σ w){sT xT ty:TypeId}{id:Nat}{s x v:ag}{u y:Value}(hs:lB G s u)(hx:lB G x y)
  (hid:G.pl id=No) (C:id<σ.next) (ha:rR T σ id sT xT s x=U (v,σ')):lE G σ w σ' id v ((cT #[sT,xT] ty #[u,y]).run P w):=by
 unfold rR at ha;split at ha
 next elem ni z2 z3 z4 xi E H=>
  split at ha
  next f l=>
   split at ha
   next old es xs b R=>
    split at ha
    next hcond=>
     obtain⟨hint,hallB,m,hN,hpos⟩:=hcond;have hxs:∀c∈xs,c.length=f.size/\c.all ag.one=IN:=λc hc=>by grind
     have I:∀c∈xs,c.length=f.size:=λc hc=>(hxs c hc).1;obtain⟨⟨Q,S,rfl⟩,vs,d,r⟩:=Ka (P:=P) h hx R f.size I;have n:∀k,(aV f.size xs.length (.slice Q xs.length S)).run P { w with drawn:=k }=.ok vs.toArray { w with drawn:=k }:=λk=>by
      obtain⟨_,vs',hl',hv'⟩:=Ka (P:=P) (h.drawn k) hx R f.size I;rw[hl'];have:=d;have e:vs'=vs:=by
       have hd:(aV f.size xs.length (.slice Q xs.length S)).run P { w with drawn:=w.drawn }=.ok vs.toArray w:=d;cases Q with
       |none=>
        simp[aV]at hl' d
        grind
       |some a=>
        simp[aV]at hl' d;have key:=Rn (P:=P) w k a (xs.length*f.size) vs.toArray d
        grind
      rw[e]
     simp[ai,cq]at ha;obtain⟨rfl,rfl⟩:=ha;unfold qT at b;split at b
     next i _ len=>
      split at b
      next q sz es1 V=>
       split at b
       next hc=>
        obtain⟨hlen,rfl,hel⟩:=hc;subst hel;cases b;cases hs with
        |n4 _ _ p hp hv=>
         have hes0:es=[]:=by grind
         subst hes0;simp[bL,aN,bq];by_cases t:xs=[]
         .subst t
          have g:=run_append_room ca (w:=w) E rfl H hint l No 0 0 0 Q S vs.toArray (by simpa using d) (by omega) ty;simp[bL];rw[g];simp[ar,ah];exact lE.place (p:=p) hid (.n4 id _ p (cb.qd _ _ _) hv) (h.move V hp hid C) (Fr.move V hp)
         have J:0<xs.length:=da.2 t;obtain⟨newCap,B,j⟩:=run_append_grow ca (w:=w) E rfl H hint l No 0 0 xs.length Q S #[] vs.toArray (λk=>by simp[aV]) n (by omega) (by simpa using m) (by simpa using hN) ty;rw[j];have hr2:Rel G (σ.del i) w:=h.less rfl (λk o hk=>EX hk);have:=GL ca hr2 l hid C (es:=[]) (by simp) I (.nil G) r (newCap:=newCap) (by simpa using B)
         grind[lE.less,EX]
        |ms _ _ _ _ p hp hv hz a c hA hoff hlc hsp=>
         subst hlen;obtain⟨him,hw0,cells,hb,K,hn,B,M⟩:=h.real V hp hv;have hes:∀c∈es,c.length=f.size:=λc hc=>by obtain⟨k,hk,rfl⟩:=aH hc;exact(M k hk).1
         by_cases g:es.length+xs.length<=c
         .rw[run_append_room ca (w:=w) E rfl H hint l (U a) es.length c xs.length Q S vs.toArray d g ty]
          by_cases t:xs=[]
          .subst t
           have hv0:vs=[]:=by have:=r.1;simpa using this
           subst hv0;simp[storeCells,ar,ah,bL,dW,List.append_nil];exact lE.place (p:=p) hid (.ms id _ 0 _ p (cb.qd _ _ _) hv K a c hA hoff hlc hsp) (h.move V hp hid C) (Fr.move V hp)
          have J:0<xs.length:=da.2 t;have hvl:vs.length=xs.length*f.size:=by rw[r.1,tn I]
          rw[hA (by omega),K];have hbig:es.length*f.size+xs.length*f.size<=cells.size:=by rw[hn,<-b_];exact bm _ (by omega)
          obtain⟨D,j,hsz,l7⟩:=DT (P:=P) p.block (es.length*f.size) q vs 0 cells w hb (by rw[hvl];omega) (λz hz=>by
           obtain⟨k,hk,rfl⟩:=aH hz;have hk':k<xs.flatten.length:=by rw[<-r.1];exact hk
           refine(r.2 k hk' hk).one ?_
           grind)
          simp[gL,sM,aN,j,ah];have hall:∀c∈es++xs,c.length=f.size:=λc hc=>by grind
          have N:=L4 M (by omega);have hreps:gl G (es++xs).flatten (cells.toList.take (es.length*f.size)++vs):=by rw[jm];exact N.append r
          have hw':=h.write (o':=.row q f.size (es++xs)) V hp hv (.cells D q (0,0)) (nK w p.block (.cells D q (0,0))) rfl rfl rfl (sn _ _ _) (λk hk=>sl _ _ _ _ hk)
           (xu _ _ _ _ hb) ⟨D,rfl,K,by rw[hsz,hn],by simp;omega,Me hall hreps (λk z hk=>by grind)⟩
          have hm:=hw'.move (id:=i) (id':=id) (o:=.row q f.size (es++xs)) (p:=p) (by simp[bg.l1]) hp hid C;have O:∀k o,((σ.del i).set id (.row q f.size (es++xs))).bT k=U o->(((σ.set i (.row q f.size (es++xs))).del i).set id (.row q f.size (es++xs))).bT k=U o:=(λk o hk=>by grind[bg.l1,bg.tb]);have hm2:Rel (G.place id p) ((σ.del i).set id (.row q f.size (es++xs))) (nK w p.block (.cells D q (0,0))):=hm.less rfl O;have hfw:Fr G σ w G (σ.set i (.row q f.size (es++xs))) (nK w p.block (.cells D q (0,0))):=Fr.write V hp hv _ (sn _ _ _) (λk hk=>sl _ _ _ _ hk);have hfm:Fr G (σ.set i (.row q f.size (es++xs))) (nK w p.block (.cells D q (0,0))) (G.place id p) (((σ.set i (.row q f.size (es++xs))).del i).set id (.row q f.size (es++xs))) (nK w p.block (.cells D q (0,0))):=Fr.move (id:=i) (o:=.row q f.size (es++xs)) (by simp[bg.l1]) hp;exact lE.place (p:=p) hid (.ms id _ 0 _ p (cb.qd _ _ _) hv K _ c (λ_=>by simp) (by omega) g rfl) hm2 (hfw.trans (hfm.trans (Fr.less O)))
         have hnr:c<es.length+xs.length:=by omega
         have N:=L4 M (by rw[hn];exact bm _ B);have hsrc2:nV σ (.ms i f.size 0 es.length)=U es:=by simp[nV,V]
         have hrs:lB G (.ms i f.size 0 es.length) (.slice (U a) es.length c):=.ms _ _ _ _ p hp hv K a c hA hoff hlc hsp;obtain⟨_,us,hold,hus⟩:=Ka (P:=P) h hrs hsrc2 f.size hes;have hold':∀k,(aV f.size es.length (.slice (U a) es.length c)).run P { w with drawn:=k }=.ok us.toArray { w with drawn:=k }:=λk=>by
          simp[aV]at hold⊢
          grind[Rn]
         obtain⟨newCap,hcap2,j⟩:=run_append_grow ca (w:=w) E rfl H hint l (U a) es.length c xs.length Q S us.toArray vs.toArray hold' n hnr m hN ty;rw[j];have hr2:Rel G (σ.del i) w:=h.less rfl (λk o hk=>EX hk);exact lE.less (σ1:=σ.del i) (λk o hk=>EX hk) (GL ca hr2 l hid C hes I hus r hcap2)
       cases b
      cases b
     .cases b
      cases hs;simp[bL,aN,bq];by_cases t:xs=[]
      .subst t
       have g:=run_append_room ca (w:=w) E rfl H hint l No 0 0 0 Q S vs.toArray (by simpa using d) (by omega) ty;simp[bL];rw[g];simp[ar,ah];exact lE.place (p:={ block:=0,size:=0,cap:=0,mF:=IN }) hid (.n4 id _ _ (cb.qd _ _ _) rfl) (h.mF id hid C _ rfl elem f.size) (Fr.mF id _ rfl _)
      have J:0<xs.length:=da.2 t;obtain⟨newCap,B,j⟩:=run_append_grow ca (w:=w) E rfl H hint l No 0 0 xs.length Q S #[] vs.toArray (λk=>by simp[aV]) n (by omega) (by simpa using m) (by simpa using hN) ty;rw[j];have:=GL ca h l hid C (es:=[]) (by simp) I (.nil G) r (newCap:=newCap) (by simpa using B);simpa using this
     cases b
    cases ha
   cases ha
  cases ha
 cases ha
def om(σ:bg):ag->bg
 | .ms id _ 0 len=>match σ.bT id with
  |some (.row e a es)=>if len<es.length then σ.set id (.row e a (es.take len))else σ
  |_=>σ
 |_=>σ
def Rel.Wz{G:cb}{σ:bg}{w:World}(h:Rel G σ w){id:Nat}{e:TypeId}{b:Nat}{es:List (List ag)}(a:σ.bT id=U (.row e b es))(n:Nat)(f:n<es.length) :
  Rel G (σ.set id (.row e b (es.take n))) w/\Fr G σ w G (σ.set id (.row e b (es.take n))) w:=by
 obtain⟨p,hp,hl⟩:=h.bT id _ a;have hv:p.mF=IS:=by
  rcases hl with⟨_,j,s2,h2⟩|⟨h2,_⟩
  .cases h2;simp at f
  exact h2
 obtain⟨_,_,cells,g,hs,c,hle,d⟩:=h.real a hp hv;refine⟨h.write a hp hv (.cells cells e (0,0)) w rfl rfl rfl rfl (λ_ _=>rfl) g ⟨cells,rfl,hs,c,by simp;omega,λi a7=>?_⟩,Fr.write a hp hv w rfl (λ_ _=>rfl)⟩
 grind
def aC5{G:cb}{σ:bg}{w:World}(h:Rel G σ w)(s:ag):Rel G (om σ s) w/\Fr G σ w G (om σ s) w/\(om σ s).next=σ.next:=by
 unfold om;split
 .split
  next a=>
   split
   next hl=>
    exact⟨(h.Wz a _ hl).1,(h.Wz a _ hl).2,rfl⟩
   exact⟨h,.refl _ _ _,rfl⟩
  exact⟨h,.refl _ _ _,rfl⟩
 exact⟨h,.refl _ _ _,rfl⟩
def wS(T:dd)(σ:bg)(id:Nat)(elem:TypeId)(s x:ag):Option (ag×bg) :=
 match s,x,T elem with
 | .bF (.slice No 0 0),.bF (.int _ n),U a=>
  if aa.wrap n=n/\0<n/\(2*n.toNat+1000)*a.bytes<=2^48/\n.toNat<=2^62/\0<a.size then
   U (.ms id a.size 0 n.toNat,σ.set id (.row elem a.size (bA n.toNat a.zeroCells)))else No
 |_,_,_=>No
def Lt(zero:Array Value)(n:Nat):(aR zero n).toList=(bA n zero.toList).flatten:=by
 have a:(bo zero.size).map (λi=>zero[i%zero.size]!)=zero.toList:=by
  apply List.ext_getElem
  .simp
  grind[Nat.mod_eq_of_lt]
 have key:∀n,(bo (n*zero.size)).map (λi=>zero[i%zero.size]!)=(bA n zero.toList).flatten:=by
  intro n
  induction n with
  |zero=>simp
  |succ n b=>rw[kV,fF,List.range_add,List.map_append,a,jn,cI,<-b,List.map_map];congr 1;apply bp;intro i _;simp
 grind[aR,Array.toList_map,Array.toList_range]
def gl.Py{G:cb}(a:List Value):∀n,gl G (bA n (a.map ag.bF)).flatten (bA n a).flatten
 | 0=>.nil G
 |n+1=>by simp only[jn,cI];refine gl.append ⟨by simp,λi h1 h2=>?_⟩ (gl.Py a n);simp only[cK];exact .bF _
theorem bj3{P:Program}{T:dd}(ca:mc P T){G:cb}{σ σ':bg}{w:World}(h:Rel G σ w){sT xT ty elem:TypeId}{st K:mL}{k:IntKind}(B:T sT=U st)(hu:st.fT=.slice elem)(C:T xT=U K)(D:K.fT=.int k){id:Nat}{s x v:ag}{u y:Value}(hs:lB G s u)(Q:lB G x y)
  (hid:G.pl id=No) (E:id<σ.next) (ha:wS T σ id elem s x=U (v,σ')):lE G σ w σ' id v ((cT #[sT,xT] ty #[u,y]).run P w):=by
 unfold wS at ha;split at ha
 next R n b a=>
  split at ha
  next hc=>
   obtain⟨h1,h2,S,h4,V⟩:=hc;cases ha;cases hs;cases Q;obtain⟨N,rfl⟩:∃N:Nat,n=N:=⟨n.toNat,by omega⟩;simp only[dG]at *;obtain⟨i,p,H⟩:=M1 ca a w;have g:∀w',(typeInfo elem).run P w'=.ok i w':=λw'=>by
    obtain⟨j,hj,_⟩:=ca.info elem b a;have:(typeInfo elem).run P w=.ok j w:=by simp[typeInfo,hj]
    rw[this]at p;cases p;simp[typeInfo,hj]
   have M:0<N:=by omega
   have O:=Te M;have hmul:∀m,m<=2*N+1000->m*i.bytes<=2^48:=λm hm=>by rw[H];exact bI (bm _ hm) S
   have f:¬(dg N 0*i.bytes > 2^48):=by grind[dg]
   have d:¬((N:Int)*(i.bytes:Int) > 2^48):=by grind
   have q:¬((N:Int)<0):=by omega
   have r:¬(((N:Nat):Int) > aa.max/\(True\/i.bytes=0)):=by
    have:aa.max=9223372036854775807:=by decide
    rw[this];omega
   have I:¬(N*b.size=0):=by have:0<N*b.size:=Nat.mul_pos M V;omega
   have hz:=ca.DC elem b a;have t:(cT #[sT,xT] ty #[.slice No 0 0,.int R N]).run P w =
     .ok (.slice (U ⟨w.heap.size,0,No⟩) N ((eP N 0 elem).cut (w.tape w.drawn (.appendCap N 0 elem)))) { w with drawn:=w.drawn+1,heap:=w.heap.push (.cells (#[]++aR b.zero.cells N++aR b.zero.cells ((eP N 0 elem).cut (w.tape w.drawn (.appendCap N 0 elem))-N)) elem) }:=by
    have z:(underlying sT).run P w=.ok (.slice elem) w:=by rw[nQ ca B,hu]
    have l:(underlying xT).run P w=.ok (.int k) w:=by rw[nQ ca C,D]
    have o:¬(0+N<=0):=by omega
    unfold cT;simp only[dN,cX,aM,an,z,l,ah,p1 ca a,ar,jj,asInt,asIntOf,h1,b8 q,g,b8 d,dG,b8 o];simp only[aN,b8 r,b8 f,run_choose,jl,ah,run_askRoom,aV,ar,Bool.not_true,aq,j2,b8 I,an,vx ca a,newRow,run_newObj,g]
   rw[t];have J:∀c∈bA N b.zeroCells,c.length=b.size:=λc hc=>by grind[mL.zeroCells]
   have:=GL ca h a hid E (es:=[]) (xs:=bA N b.zeroCells) (us:=[]) (vs:=(bA N b.zero.cells.toList).flatten) (by simp) J (.nil G) (gl.Py _ N) (newCap:=(eP N 0 elem).cut (w.tape w.drawn (.appendCap N 0 elem))) (by simp only[jR];simp);have e:(bA N b.zero.cells.toList).flatten.toArray=aR b.zero.cells N:=by apply dz;rw[Lt]
   grind
  cases ha
 cases ha
def qt(T:dd)(σ:bg)(id:Nat)(sT xT:TypeId)(s x:ag):Option (ag×bg) :=
 match T sT,T xT with
 |some { fT:=.slice elem,.. },U { fT:=.int _,.. }=>wS T σ id elem s x
 |_,_=>rR T (om σ s) id sT xT s x
def aR0{P:Program}{T:dd}(ca:mc P T){G:cb}{σ σ':bg}{w:World}(h:Rel G σ w){sT xT ty:TypeId}{id:Nat}{s x v:ag}{u y:Value}(hs:lB G s u)(b:lB G x y)
  (hid:G.pl id=No) (a:id<σ.next) (ha:qt T σ id sT xT s x=U (v,σ')):lE G σ w σ' id v ((cT #[sT,xT] ty #[u,y]).run P w):=by
 unfold qt at ha;split at ha
 .grind[bj3]
 obtain⟨h1,h2,c⟩:=aC5 h s;obtain⟨G',d,w',e,a2,a3,a4,a5,f⟩:=be1 (P:=P) ca h1 (ty:=ty) hs b hid (by rw[c];exact a) ha;exact⟨G',d,w',e,a2,a3,a4,a5,h2.trans f⟩
def zT(T:dd)(t:TypeId)(x:ag):Option ag :=
 match T t,x with
 |some { fT:=.slice _,.. },.bF (.slice No 0 0)=>U (.bF (goInt 0))
 |_,_=>No
def Y0{P:Program}{T:dd}(ca:mc P T){G:cb}{σ:bg}{w:World}(h:Rel G σ w){t ty:TypeId}{id:Nat}{x v:ag}{u:Value}(b:lB G x u)(ha:zT T t x=U v) :
  lE G σ w σ id v ((jZ #[t] ty #[u]).run P w):=by
 unfold zT at ha;split at ha
 next c=>
  cases ha;cases b;have a:=nQ ca c w;simp only[jZ,dN,cX,an,a,ah,ar];exact lE.same (.bF _) h
 cases ha
def ag.M0{G:cb}{x:ag}{u:Value}{b:Bool}{l:List Int}(h:x.key=U (b,l))(a:lB G x u):u=mZ b l:=by
 unfold ag.key at h;split at h
 .cases h;cases a;rfl
 .split at h
  next cs c hl=>
   cases h;cases a with
   |agg _ vs h1 h2=>rw[ag.HI hl ⟨h1,h2⟩];simp[mZ]
  cases h
 cases h
def rC(agg:Bool)(l a:List Int):Bool:=if agg then l==a else l.headD 0==a.headD 0
def nd(agg:Bool)(l:List Int):List (List Int×ag×Nat)->Nat->Option (Nat×ag)
 | [],_=>No
 |e::es,i=>if rC agg l e.1 then U (i,e.2.1)else nd agg l es (i+1)
def ry(T:dd)(a:TypeId)(b:Bool)(l:List Int)(es:List (List Int×ag×Nat)):Bool :=
 match T a with
 |some ti=>if b then ti.flat==U l.length&&es.all (λe=>e.1.length==l.length)else(match ti.fT with| .int _=>IN|_=>IS)
 |none=>IS
def nW(G:cb)(agg:Bool):List (List Int×ag×Nat)->List MapEntry->Prop
 | [],[]=>True
 |e::es,x::xs=>(x.key=mZ agg e.1/\lB G e.2.1 x.val/\x.born=e.2.2)/\nW G agg es xs
 |_,_=>False
def nW.length{G:cb}{agg:Bool}:∀ {es:List (List Int×ag×Nat)} {xs:List MapEntry},nW G agg es xs->xs.length=es.length
 | [],[],_=>rfl
 | [],_::_,h=>h.elim
 |_::_,[],h=>h.elim
 |_::es,_::xs,h=>by simp[nW.length h.2]
def nW.of{G:cb}{agg:Bool}:∀ {es:List (List Int×ag×Nat)} {xs:List MapEntry},xs.length=es.length->(∀i (h:i<es.length) (h':i<xs.length),xs[i].key=mZ agg es[i].1/\lB G es[i].2.1 xs[i].val/\xs[i].born=es[i].2.2)->nW G agg es xs
 | [],[],_,_=>trivial
 | [],_::_,h,_=>by simp at h
 |_::_,[],h,_=>by simp at h
 |e::es,x::xs,h,a=>⟨a 0 (by simp) (by simp),nW.of (by simpa using h) (λi h1 h2=>a (i+1) (by simpa using h1) (by simpa using h2))⟩
def nW.at{G:cb}{agg:Bool}:∀ {es:List (List Int×ag×Nat)} {xs:List MapEntry},nW G agg es xs->∀i (h:i<es.length) (h':i<xs.length),xs[i].key=mZ agg es[i].1/\lB G es[i].2.1 xs[i].val/\xs[i].born=es[i].2.2
 | [],[],_,i,h,_=>by simp at h
 | [],_::_,h,_,_,_=>h.elim
 |_::_,[],h,_,_,_=>h.elim
 |e::es,x::xs,h,0,_,_=>h.1
 |e::es,x::xs,h,i+1,h1,h2=>nW.at h.2 i (by simpa using h1) (by simpa using h2)
theorem Hd{G:cb}{p:nm}{agg:Bool}{es:List (List Int×ag×Nat)}{clock:Nat}{a:Option Obj}(h:oc G p (.map agg es clock) a):∃xs:List MapEntry,a=U (.map xs.toArray clock)/\nW G agg es xs:=by obtain⟨ents,h1,h2,b⟩:=h;exact⟨ents.toList,by simpa using h1,.of (by simpa using h2) (λi h h'=>by grind)⟩
def L6{G:cb}(p:nm){agg:Bool}{es:List (List Int×ag×Nat)}(clock:Nat){xs:List MapEntry}(h:nW G agg es xs):oc G p (.map agg es clock) (U (.map xs.toArray clock)) :=⟨xs.toArray,rfl,by simpa using h.length,λi h1 h2=>by simpa using h.at i h1 (by simpa using h2)⟩
def Found(G:cb)(k:Nat):Option (Nat×ag)->Option (Nat×Value)->Prop
 |none,No=>True
 |some (i,c),U (j,v)=>i=j/\k<=i/\lB G c v
 |_,_=>False
def SZ{G:cb}(d:IntKind)(l:List Int):∀(es:List (List Int×ag×Nat)) (xs:List MapEntry) (i:Nat),nW G IS es xs ->
  ∃r,eJ (.int d) (mZ IS l) xs i=U r/\Found G i (nd IS l es i) r
 | [],[],i,_=>⟨No,rfl,trivial⟩
 | [],_::_,_,h=>h.elim
 |_::_,[],_,h=>h.elim
 |e::es,x::xs,i,h=>by
  obtain⟨⟨h1,h2,_⟩,f⟩:=h;by_cases b:l.headD 0=e.1.headD 0
  .refine⟨U (i,x.val),?_,?_⟩
   .simp only[eJ,h1,mZ,aq,j2,iw,jj,b,lh]
   simp only[nd,rC,aq,j2,b,lh,jj];exact⟨rfl,aw _,h2⟩
  obtain⟨r,g,a⟩:=SZ d l es xs (i+1) f;refine⟨r,?_,?_⟩
  .simp[eJ,h1,mZ,aq,iw]
   grind[mZ]
  have:rC IS l e.1=IS:=by simpa[rC]using b
  simp[nd,this,aq];cases hm:nd IS l es (i+1)with
  |none=>rw[hm]at a;cases r with
   |none=>trivial
   |some _=>exact a
  |some c=>
   obtain⟨ci,q5⟩:=c;rw[hm]at a;cases r with
   |none=>exact a
   |some q=>obtain⟨j,a2,a3⟩:=a;exact⟨j,by omega,a3⟩
def RO{P:Program}{G:cb}{w:World}(b:TypeId)(l:List Int)(g:∀bs:List Int,bs.length=l.length->(eW 10000 b (mZ IN l) (mZ IN bs)).run P w=.ok (l==bs) w) :
  ∀(es:List (List Int×ag×Nat)) (xs:List MapEntry) (i:Nat),nW G IN es xs->(∀e∈es,e.1.length=l.length) ->
  ∃r,(gG b (mZ IN l) xs i).run P w=.ok r w/\Found G i (nd IN l es i) r
 | [],[],i,_,_=>⟨No,rfl,trivial⟩
 | [],_::_,_,h,_=>h.elim
 |_::_,[],_,h,_=>h.elim
 |e::es,x::xs,i,h,hl=>by
  obtain⟨⟨h1,h2,_⟩,k⟩:=h;have he:=g e.1 (hl e (by simp));by_cases d:(l==e.1)=IN
  .refine⟨U (i,x.val),?_,?_⟩
   .simp[gG,h1,gd,eG,an,he,d,ah,ar]
   simp[nd,rC,d];exact⟨rfl,aw _,h2⟩
  have j:(l==e.1)=IS:=by simpa using d
  obtain⟨r,f,a⟩:=RO b l g es xs (i+1) k (λe he=>hl e (by simp[he]));refine⟨r,?_,?_⟩
  .simp[gG,h1,gd,eG,an,he,j,ah,aq,f]
  simp[nd,rC,j,aq];cases hm:nd IN l es (i+1)with
  |none=>rw[hm]at a;cases r with
   |none=>trivial
   |some _=>exact a
  |some c=>
   obtain⟨ci,q5⟩:=c;rw[hm]at a;cases r with
   |none=>exact a
   |some q=>obtain⟨m,a2,a3⟩:=a;exact⟨m,by omega,a3⟩
def aC9{P:Program}{w:World}(e:Bool)(n:Nat)(a:TypeId)(k b:IntKind)(m:Int)(h:(underlying a).run P w=.ok (.int b) w):(bK e (n+1) a (.int k m)).run P w=.ok () w:=by simp[bK,an,h,ah,ar]
def EN{P:Program}{T:dd}(ca:mc P T){G:cb}{w:World}{c:TypeId}{b:Bool}{l:List Int}{es:List (List Int×ag×Nat)}{xs:List MapEntry}(d:nW G b es xs)(hf:ry T c b l es=IN) :
  (∀e,(bK e 10000 c (mZ b l)).run P w=.ok () w)/\∃r,(gm c (mZ b l) xs).run P w=.ok r w/\Found G 0 (nd b l es 0) r:=by
 unfold ry at hf;split at hf
 next ti f=>
  cases b with
  |false=>
   simp[aq]at hf;split at hf
   next i hu=>
    have a:=nQ ca f w;rw[hu]at a;refine⟨λe=>?_,?_⟩
    .exact aC9 e 9999 c .i64 i _ a
    obtain⟨r,h1,h2⟩:=SZ i l es xs 0 d;exact⟨r,by simp[gm,an,a,ah,h1,ar],h2⟩
   cases hf
  |true=>
   simp[ab,beq_iff_eq]at hf;obtain⟨g,j⟩:=hf;obtain⟨_,heq⟩:=ca.flat c ti l.length f g;have hlen:∀e∈es,e.1.length=l.length:=λe he=>by grind
   refine⟨λe=>by grind[mZ],?_⟩;obtain⟨r,h1,h2⟩:=RO (P:=P) (w:=w) c l (λbs k=>by grind[mZ]) es xs 0 d hlen;have a:=nQ ca f w;cases es with
   |nil=>
    cases xs with
    |nil=>exact⟨No,by simp[gm,a,eJ],trivial⟩
    |cons _ _=>exact d.elim
   |cons e es=>
    cases xs with
    |nil=>exact d.elim
    |cons x xs=>
     refine⟨r,?_,h2⟩;have h:eJ ti.fT (mZ IN l) (x::xs) 0=No:=by
      unfold eJ;have:iw ti.fT (mZ IN l) x.key=No:=by rw[d.1.1];simp[mZ];cases ti.fT<;>rfl
      rw[this]
     simp[gm,an,a,ah,h,h1]
 cases hf
def mL.qs(ti:mL):ag:=.ofValue ti.zero
def ua:List ag->Bool
 | [k,_]=>k.key.isSome
 |_=>IS
def yw:∀(rs:List (List ag)) (j:Nat),(nt j rs).length=rs.length
 | [],_=>rfl
 |_::rs,j=>by simp[nt,yw rs]
theorem Ep:∀(rs:List (List ag)) (j i:Nat) (h:i<(nt j rs).length) (h':i<rs.length),(nt j rs)[i]=nR (j+i) rs[i]
 |r::rs,j,0,_,_=>by simp[nt]
 |r::rs,j,i+1,h,h'=>by simp[nt,List.getElem_cons_succ];rw[Ep rs (j+1) i (by simpa[nt]using h) (by simpa using h')];congr 1;omega
theorem MR(j:Nat)(r:List ag):(nR j r).2.2=j:=by unfold nR;split<;>rfl
def oW(T:dd)(σ:bg)(t:TypeId)(x ix:ag)(a:Bool):Option ag :=
 match T t,ix.key with
 |some { fT:=.map d f,.. },U (b,l)=>
  match T f with
  |some e=>
   match x with
   | .lX id=>match σ.bT id with
    |some (.map agg es _)=>if(agg=b\/es.isEmpty=IN)/\ry T d b l es=IN then
      let r:=match nd b l es 0 with
       |some (_,c)=>(c,IN)
       |none=>(e.qs,IS)
      U (if a then .fe [r.1,.bF (.bool r.2)]else r.1)else No
    |_=>No
   | .mx (.rs rows)=>if(qF rows=b\/rows.isEmpty=IN)/\ry T d b l (nt 0 rows)=IN/\rows.all ua=IN then
      let r:=match nd b l (nt 0 rows) 0 with
       |some (_,c)=>(c,IN)
       |none=>(e.qs,IS)
      U (if a then .fe [r.1,.bF (.bool r.2)]else r.1)else No
   |_=>No
  |none=>No
 |_,_=>No
theorem Su{P:Program}{T:dd}(ca:mc P T){G:cb}{σ:bg}{w:World}(h:Rel G σ w){t v x:TypeId}{ti:mL}(C:T t=U ti)(hu:ti.fT=.map v x){m:mL}(n:T x=U m){id:Nat}{ix:ag}{y:Value}{ok:Bool}(D:lB G ix y)
  {b:Bool} {l:List Int} (hk:ix.key=U (b,l)) {agg:Bool} {es:List (List Int×ag×Nat)} {clock o:Nat} {xs:List MapEntry} (E:w.heap[o]?=U (.map xs.toArray clock)) (d:nW G agg es xs) (p:agg=b\/es.isEmpty=IN) (hf:ry T v b l es=IN) :
  lE G σ w σ id (if ok then .fe [(match nd b l es 0 with|some (_,c)=>(c,IN)|none=>(m.qs,IS)).1,.bF (.bool (match nd b l es 0 with|some (_,c)=>(c,IN)|none=>(m.qs,IS)).2)]else(match nd b l es 0 with|some (_,c)=>(c,IN)|none=>(m.qs,IS)).1) ((iH t (.map (U o)) y ok).run P w):=by
 obtain rfl:=ag.M0 hk D;have g:nW G b es xs:=by
  rcases p with rfl|he
  .exact d
  have s:es=[]:=by simpa using he
  subst s;have:xs=[]:=by have:=d.length;simpa using this
  subst this;trivial
 obtain⟨u,r,j,a⟩:=EN ca (P:=P) (w:=w) g hf;have l7:(getObj o).run P w=.ok (.map xs.toArray clock) w:=by simp[getObj,iy,E]
 have e:∀(c:ag) (z:Value) (k:Bool),lB G c z->lE G σ w σ id (if ok then .fe [c,.bF (.bool k)]else c) (.ok (if ok then .tuple #[z,.bool k]else z) w):=λc z k B=>by
  refine lE.same ?_ h;cases ok
  .exact B
  have:=lB.fe (G:=G) [c,.bF (.bool k)] [z,.bool k] rfl (λi h1 h2=>by
   cases i with
   |zero=>exact B
   |succ i=>cases i with
    |zero=>exact .bF _
    |succ i=>simp at h1;omega)
  exact this
 have f:=nQ ca C w;rw[hu]at f;simp only[iH,an,f,ah,l7,ar,u,j];cases hm:nd b l es 0 with
 |none=>
  rw[hm]at a;cases r with
  |some _=>exact a.elim
  |none=>simp[vx ca n,ah];exact e _ _ IS (lB.ofValue G _)
 |some c=>
  obtain⟨ci,q5⟩:=c;rw[hm]at a;cases r with
  |none=>exact a.elim
  |some q=>obtain⟨H,I⟩:=q;simp[ar];exact e _ _ IN a.2.2
def bb6{P:Program}{T:dd}(ca:mc P T){G:cb}{σ:bg}{w:World}(h:Rel G σ w){t:TypeId}{id:Nat}{x ix v:ag}{u y:Value}{ok:Bool}(f:lB G x u)(k:lB G ix y)
  (ha:oW T σ t x ix ok=U v):lE G σ w σ id v ((iH t u y ok).run P w):=by
 unfold oW at ha;split at ha
 next o q _ _ _ _ b l m hk=>
  split at ha
  next r c=>
   split at ha
   next id'=>
    split at ha
    next agg es clock g=>
     split at ha
     next hc=>
      cases ha;cases f with
      |lX _ p hp=>
      have hv:p.mF=IS:=by
       rcases h.uv g hp with⟨_,_,_,d⟩|⟨d,_⟩
       .cases d
       exact d
      obtain⟨_,_,j⟩:=h.real g hp hv
      grind[Hd,Su]
     cases ha
    cases ha
   next rows=>
    split at ha
    next hc=>
     cases ha;cases f with
     |mx _ s ents himm hlen qJ hrep=>
     have n:=h.lM _ _ himm;have a:nW G (qF rows) (nt 0 rows) ents:=nW.of (by rw[hlen,yw]) (λi h1 h2=>by grind[Ep,MR]);refine Su ca h m rfl c k hk n a ?_ hc.2.1;rcases hc.1 with e|e
     .exact .inl e
     refine .inr ?_;have:rows=[]:=by simpa using e
     subst this;rfl
    cases ha
   cases ha
  cases ha
 cases ha
def pW(agg:Bool)(l:List Int)(v:ag)(clock:Nat)(es:List (List Int×ag×Nat)):List (List Int×ag×Nat)×Nat :=
 match nd agg l es 0 with
 |some (i,_)=>(es.modify i (λe=>(l,v,e.2.2)),clock)
 |none=>(es++[(l,v,clock)],clock+1)
def q3(T:dd)(σ:bg)(t:TypeId)(x ix v:ag):Option bg :=
 match T t,ix.key with
 |some { fT:=.map a _,.. },U (b,l)=>
  match x with
  | .lX id=>match σ.bT id with
   |some (.map agg es clock)=>if es.isEmpty/\ry T a b l []=IN then U (σ.set id (.map b [(l,v,clock)] (clock+1)))else if agg=b/\ry T a b l es=IN then U (σ.set id (.map agg (pW b l v clock es).1 (pW b l v clock es).2))else No
   |_=>No
  |_=>No
 |_,_=>No
def UF{agg:Bool}{l a:List Int}(h:rC agg l a=IN):mZ agg l=mZ agg a:=by grind[rC,mZ]
def Nl{agg:Bool}{l:List Int}:∀ {es:List (List Int×ag×Nat)} {k i:Nat} {c:ag},nd agg l es k=U (i,c)->∃e,es[i-k]?=U e/\k<=i/\rC agg l e.1=IN/\e.2.1=c
 | [],k,i,c,h=>by simp[nd]at h
 |e::es,k,i,c,h=>by
  unfold nd at h;split at h
  .grind
  obtain⟨a,h1,h2,b,d⟩:=Nl h
  grind
def Se(agg:Bool)(l:List Int):eC 10000 (mZ agg l) (mZ agg l)=IN:=by
 cases agg
 .simp[mZ,eC]
 simp[mZ];show(eC (9999+1) _ _)=IN;simp[eC,lh,Bool.true_and];have:∀l:List Int,(((l.map (bG .i64)).zip (l.map (bG .i64))).all λ(x,y)=>eC 9999 x y)=IN:=by
  intro l
  induction l with
  |nil=>rfl
  |cons a l b=>simp only[ay,List.zip_cons_cons,List.all_cons,ab];exact⟨by simp[eC],b⟩
 simpa using this l
def nW.modify{G:cb}{agg:Bool}{l:List Int}{v:ag}{z:Value}(hv:lB G v z):∀ {es:List (List Int×ag×Nat)} {xs:List MapEntry} (i:Nat),nW G agg es xs ->
  nW G agg (es.modify i (λe=>(l,v,e.2.2))) (xs.modify i (λx=>{ x with key:=mZ agg l,val:=z }))
 | [],[],i,_=>by simp[nW]
 | [],_::_,_,h=>h.elim
 |_::_,[],_,h=>h.elim
 |e::es,x::xs,0,h=>by simp[iQ];exact⟨⟨rfl,hv,h.1.2.2⟩,h.2⟩
 |e::es,x::xs,i+1,h=>by simp[iR];exact⟨h.1,nW.modify hv i h.2⟩
def nW.snoc{G:cb}{agg:Bool}{l:List Int}{v:ag}{z:Value}{c:Nat}(hv:lB G v z):∀ {es:List (List Int×ag×Nat)} {xs:List MapEntry},nW G agg es xs ->
  nW G agg (es++[(l,v,c)]) (xs++[{ key:=mZ agg l,val:=z,born:=c }])
 | [],[],_=>⟨⟨rfl,hv,rfl⟩,trivial⟩
 | [],_::_,h=>h.elim
 |_::_,[],h=>h.elim
 |e::es,x::xs,h=>⟨h.1,nW.snoc hv h.2⟩
def Hj{P:Program}{w:World}{b:Nat}{o x:Obj}(h:w.heap[b]?=U x)(a:∀c e f,x≠.cells c e f):(setObj b o).run P w=.ok () (nK w b o):=by
 cases x with
 |cells c e f=>exact lH rfl (a c e f)
 |_=>simp[setObj,iy,h,nK]
def RR{P:Program}{T:dd}(ca:mc P T){G:cb}{σ σ':bg}{w:World}(h:Rel G σ w){t:TypeId}{x ix v:ag}{u y z:Value}(Q:lB G x u)(R:lB G ix y)(hz:lB G v z)
  (ha:q3 T σ t x ix v=U σ'):∃w',(fU t u y z).run P w=.ok () w'/\Rel G σ' w'/\Fr G σ w G σ' w':=by
 unfold q3 at ha;split at ha
 next S V _ _ _ _ b l K hk=>
  split at ha
  next id'=>
   split at ha
   next agg es clock I=>
    obtain rfl:=ag.M0 hk R;cases Q with
    |lX _ p hp=>
    have hv:p.mF=IS:=by
     rcases h.uv I hp with⟨_,_,_,M⟩|⟨M,_⟩
     .cases M
     exact M
    obtain⟨_,_,C⟩:=h.real I hp hv;obtain⟨xs,N,d⟩:=Hd C;have l7:(getObj p.block).run P w=.ok (.map xs.toArray clock) w:=by simp[getObj,iy,N]
    have g:∀o,(setObj p.block o).run P w=.ok () (nK w p.block o):=λo=>Hj N (by intro _ _ _ h;cases h);have i:∀(J:Bool) (j:List (List Int×ag×Nat)) (m:List MapEntry) (c:Nat),nW G J j m->Rel G (σ.set id' (.map J j c)) (nK w p.block (.map m.toArray c))/\Fr G σ w G (σ.set id' (.map J j c)) (nK w p.block (.map m.toArray c)):=λJ j m c he=>⟨h.write I hp hv _ _ rfl rfl rfl (sn _ _ _) (λk hk=>sl _ _ _ _ hk) (xu _ _ _ _ N) (L6 p c he),Fr.write I hp hv _ (sn _ _ _) (λk hk=>sl _ _ _ _ hk)⟩;split at ha
    next hc=>
     obtain⟨D,hf⟩:=hc;cases ha;have:es=[]:=by simpa using D
     subst this;have:xs=[]:=by have:=d.length;simpa using this
     subst this;obtain⟨n,r,f,a⟩:=EN ca (P:=P) (w:=w) (G:=G) (b:=b) (es:=[]) (xs:=[]) trivial hf;have:r=No:=by cases r with
      |none=>rfl
      |some _=>exact a.elim
     subst this;refine⟨nK w p.block (.map ([({ key:=mZ b l,val:=z,born:=clock }:MapEntry)]).toArray (clock+1)),?_,i b _ _ _ ⟨⟨rfl,hz,rfl⟩,trivial⟩⟩;simp[fU,an,nQ ca K,ah,l7,n,f];simp[g]
    split at ha
    next hc=>
     obtain⟨rfl,hf⟩:=hc;cases ha;obtain⟨n,r,f,a⟩:=EN ca (P:=P) (w:=w) d hf;cases hm:nd agg l es 0 with
     |none=>
      rw[hm]at a;have:r=No:=by cases r with
       |none=>rfl
       |some _=>exact a.elim
      subst this;simp[pW,hm];refine⟨nK w p.block (.map (xs++[({ key:=mZ agg l,val:=z,born:=clock }:MapEntry)]).toArray (clock+1)),?_,i agg _ _ _ (d.snoc hz)⟩;simp[fU,an,nQ ca K,ah,l7,n,f];simp[g]
     |some c=>
      obtain⟨ci,q5⟩:=c;rw[hm]at a;cases r with
      |none=>exact a.elim
      |some q=>
       obtain⟨qi,qv⟩:=q;obtain⟨rfl,_,_⟩:=a;obtain⟨e,E,_,O,_⟩:=Nl hm;simp[iZ]at E;obtain⟨H,rfl⟩:=ao.1 E;have s:ci<xs.length:=by rw[d.length];exact H
       have qJ:xs[ci].key=mZ agg l:=by rw[(d.at ci H s).1];exact(UF O).symm
       simp[pW,hm];refine⟨nK w p.block (.map (xs.modify ci (λx=>{ x with key:=mZ agg l,val:=z })).toArray clock),?_,i agg _ _ _ (d.modify hz ci)⟩;simp only[fU,an,nQ ca K,ah,l7,n,f];have B:(eZ (((xs.toArray[ci]?).map (·.key)).getD (mZ agg l)) (mZ agg l)).run P w=.ok (mZ agg l) w:=by
        have:((xs.toArray[ci]?).map (·.key)).getD (mZ agg l)=mZ agg l:=by simp[s,qJ]
        rw[this];simp[eZ,Se]
       simp only[an,B,ah,g];congr 3;simp
    cases ha
   cases ha
  cases ha
 cases ha
def V0{G:cb}{σ:bg}{w:World}(h:Rel G σ w){id:Nat}{agg:Bool}{es:List (List Int×ag×Nat)}{clock:Nat}(d:σ.bT id=U (.map agg es clock)){p:nm}(hp:G.pl id=U p) :
  p.mF=IS/\∃xs:List MapEntry,w.heap[p.block]?=U (.map xs.toArray clock)/\nW G agg es xs:=by
 have hv:p.mF=IS:=by
  rcases h.uv d hp with⟨_,_,_,c⟩|⟨c,_⟩
  .cases c
  exact c
 obtain⟨_,_,b⟩:=h.real d hp hv;obtain⟨xs,e,a⟩:=Hd b;exact⟨hv,xs,e,a⟩
def vm(T:dd)(σ:bg)(t:TypeId)(x ix:ag):Option (ag×bg) :=
 match T t,ix.key with
 |some { fT:=.map d e,.. },U (b,l)=>
  match T e with
  |some a=>match x with
   | .lX id=>match σ.bT id with
    |some (.map agg es clock)=>
     if es.isEmpty/\ry T d b l []=IN then U (.fe [a.qs,.bF (goInt clock)],σ.set id (.map b [(l,a.qs,clock)] (clock+1)))else if agg=b/\ry T d b l es=IN then
      match nd b l es 0 with
      |some (i,c)=>U (.fe [c,.bF (goInt (((es[i]?).map (·.2.2)).getD 0))],σ)
      |none=>U (.fe [a.qs,.bF (goInt clock)],σ.set id (.map agg (es++[(l,a.qs,clock)]) (clock+1)))else No
    |_=>No
   |_=>No
  |none=>No
 |_,_=>No
def lB.O4{G:cb}{a b:ag}{x y:Value}(h1:lB G a x)(h2:lB G b y):lB G (.fe [a,b]) (.tuple #[x,y]) :=
 lB.fe (G:=G) [a,b] [x,y] rfl (λi a7 c=>by
  match i,a7 with
  | 0,_=>exact h1
  | 1,_=>exact h2)
def bi8{w:World}{b:Nat}{o:Obj}(h:w.heap[b]?=U o):nK w b o=w:=by
 unfold nK;have:w.heap.setIfInBounds b o=w.heap:=by
  obtain⟨a,e⟩:=aS.1 h;subst e;apply iG
  .simp
  intro i h1 h2;rw[eO];split
  next a7=>subst a7;rfl
  rfl
 rw[this]
def aC4{P:Program}{T:dd}(ca:mc P T){G:cb}{σ σ':bg}{w:World}(h:Rel G σ w){t:TypeId}{id:Nat}{x ix v:ag}{u y:Value}(hx:lB G x u)(hy:lB G ix y)
  (ha:vm T σ t x ix=U (v,σ')):lE G σ w σ' id v ((f_ t u y).run P w):=by
 unfold vm at ha;split at ha
 next kt et _ _ _ _ b l Q hk=>
  split at ha
  next J K=>
   split at ha
   next id'=>
    split at ha
    next agg es clock R=>
     obtain rfl:=ag.M0 hk hy;cases hx with
     |lX _ p hp=>
     obtain⟨hv,xs,N,d⟩:=V0 h R hp;have l7:(getObj p.block).run P w=.ok (.map xs.toArray clock) w:=by simp[getObj,iy,N]
     have i:∀o,(setObj p.block o).run P w=.ok () (nK w p.block o):=λo=>Hj N (by intro _ _ _ h;cases h);have B:∀(O:Bool) (m:List (List Int×ag×Nat)) (n:List MapEntry) (c:Nat),nW G O m n->Rel G (σ.set id' (.map O m c)) (nK w p.block (.map n.toArray c))/\Fr G σ w G (σ.set id' (.map O m c)) (nK w p.block (.map n.toArray c)):=λO m n c he=>⟨h.write R hp hv _ _ rfl rfl rfl (sn _ _ _) (λk hk=>sl _ _ _ _ hk) (xu _ _ _ _ N) (L6 p c he),Fr.write R hp hv _ (sn _ _ _) (λk hk=>sl _ _ _ _ hk)⟩;have hz:lB G J.qs J.zero:=lB.ofValue G _;split at ha
     next hc=>
      obtain⟨M,hf⟩:=hc;cases ha;have:es=[]:=by simpa using M
      subst this;have:xs=[]:=by have:=d.length;simpa using this
      subst this;obtain⟨s,r,f,a⟩:=EN ca (P:=P) (w:=w) (G:=G) (b:=b) (es:=[]) (xs:=[]) trivial hf;have:r=No:=by cases r with
       |none=>rfl
       |some _=>exact a.elim
      subst this;obtain⟨S,V⟩:=B b [(l,J.qs,clock)] [({ key:=mZ b l,val:=J.zero,born:=clock }:MapEntry)] (clock+1) ⟨⟨rfl,hz,rfl⟩,trivial⟩;refine⟨G,.tuple #[J.zero,goInt clock],_,.refl G,λ_ _ h=>h,?_,lB.O4 hz (.bF _),S,V⟩;simp only[f_,an,nQ ca Q,ah,l7,s,f,vx ca K];simp[i]
     split at ha
     next hc=>
      obtain⟨rfl,hf⟩:=hc;obtain⟨s,r,f,a⟩:=EN ca (P:=P) (w:=w) d hf;split at ha
      next ci q5 hm=>
       cases ha;rw[hm]at a;cases r with
       |none=>exact a.elim
       |some q=>
        obtain⟨qi,qv⟩:=q;obtain⟨rfl,_,hcv⟩:=a;obtain⟨e,C,_,he2,_⟩:=Nl hm;simp only[iZ]at C;obtain⟨D,rfl⟩:=ao.1 C;have g:ci<xs.length:=by rw[d.length];exact D
        have qJ:xs[ci].key=mZ agg l:=by rw[(d.at ci D g).1];exact(UF he2).symm
        have E:xs[ci].born=es[ci].2.2:=(d.at ci D g).2.2;have H:xs.toArray.modify ci (λe=>{ e with key:=mZ agg l })=xs.toArray:=by
         apply iG
         .simp
         intro j h1 h2;by_cases hj:ci=j
         .subst hj
          rw[Array.getElem_modify_self];simp only[List.getElem_toArray];generalize xs[ci]=z at qJ;cases z;simp only at qJ;rw[qJ]
         rw[Array.getElem_modify_of_ne hj]
        refine⟨G,.tuple #[qv,goInt (es[ci].2.2)],w,.refl G,λ_ _ h=>h,?_,lB.O4 hcv (by simpa[C]using lB.bF _),h,.refl _ _ _⟩;simp only[f_,an,nQ ca Q,ah,l7,s,f];have I:(eZ (((xs.toArray[ci]?).map (·.key)).getD (mZ agg l)) (mZ agg l)).run P w=.ok (mZ agg l) w:=by
         have:((xs.toArray[ci]?).map (·.key)).getD (mZ agg l)=mZ agg l:=by simp[g,qJ]
         rw[this];simp[eZ,Se]
        simp only[an,I,ah,i,H,bi8 N,ar];simp[g,E]
      rename_i hm;cases ha;rw[hm]at a;have:r=No:=by cases r with
       |none=>rfl
       |some _=>exact a.elim
      subst this;obtain⟨S,V⟩:=B agg _ _ (clock+1) (d.snoc (l:=l) (c:=clock) hz);refine⟨G,.tuple #[J.zero,goInt clock],_,.refl G,λ_ _ h=>h,?_,lB.O4 hz (.bF _),S,V⟩;simp only[f_,an,nQ ca Q,ah,l7,s,f,vx ca K];simp[i]
     cases ha
    cases ha
   cases ha
  cases ha
 cases ha
def yo(n:Int):List (List Int×ag×Nat)->Nat->Option Nat
 | [],_=>No
 |e::es,i=>if((e.2.2:Int)==n)=IN then U i else yo n es (i+1)
def WW{G:cb}{agg:Bool}(n:Int):∀ {es:List (List Int×ag×Nat)} {xs:List MapEntry} (k:Nat),nW G agg es xs->yo n es k=(xs.findIdx? λx=>(x.born:Int)==n).map (·+k)
 | [],[],k,_=>by simp[yo]
 | [],_::_,_,h=>h.elim
 |_::_,[],_,h=>h.elim
 |e::es,x::xs,k,⟨⟨h1,h2,a⟩,b⟩=>by
  unfold yo;rw[List.findIdx?_cons,a];split
  .simp
  rw[WW n (k+1) b];cases(xs.findIdx? λx=>(x.born:Int)==n)with
  |none=>rfl
  |some j=>simp;omega
def vi(σ:bg)(x st v:ag):Option bg :=
 match x,st with
 | .lX id,.bF (.int .i64 n)=>match σ.bT id with
  |some (.map agg es clock)=>match yo n es 0 with
   |some i=>U (σ.set id (.map agg (es.modify i (λe=>(e.1,v,e.2.2))) clock))
   |none=>No
  |_=>No
 |_,_=>No
def nW.Wh{G:cb}{agg:Bool}{v:ag}{z:Value}(hv:lB G v z):∀ {es:List (List Int×ag×Nat)} {xs:List MapEntry} (i:Nat),nW G agg es xs ->
  nW G agg (es.modify i (λe=>(e.1,v,e.2.2))) (xs.modify i (λx=>{ x with val:=z }))
 | [],[],i,_=>by simp[nW]
 | [],_::_,_,h=>h.elim
 |_::_,[],_,h=>h.elim
 |e::es,x::xs,0,h=>by simp only[iQ];exact⟨⟨h.1.1,hv,h.1.2.2⟩,h.2⟩
 |e::es,x::xs,i+1,h=>by simp only[iR];exact⟨h.1,nW.Wh hv i h.2⟩
def ax8{P:Program}{G:cb}{σ σ':bg}{w:World}(h:Rel G σ w){t:TypeId}{x st v:ag}{u y z:Value}(l:lB G x u)(m:lB G st y)(hz:lB G v z)
  (ha:vi σ x st v=U σ'):∃w',(jG t u y z).run P w=.ok () w'/\Rel G σ' w'/\Fr G σ w G σ' w':=by
 unfold vi at ha;split at ha
 next id' n=>
  split at ha
  next agg es clock d=>
   split at ha
   next i a7=>
    cases ha;cases l with
    |lX _ p hp=>
    cases m;obtain⟨hv,xs,f,a⟩:=V0 h d hp;have l7:(getObj p.block).run P w=.ok (.map xs.toArray clock) w:=by simp[getObj,iy,f]
    have c:∀o,(setObj p.block o).run P w=.ok () (nK w p.block o):=λo=>Hj f (by intro _ _ _ h;cases h);have b:(xs.findIdx? λx=>(x.born:Int)==n)=U i:=by
     have:=WW n 0 a;rw[a7]at this;cases hf:(xs.findIdx? λx=>(x.born:Int)==n)with
     |none=>rw[hf]at this;cases this
     |some j=>rw[hf]at this;simp at this;rw[this]
    refine⟨nK w p.block (.map (xs.modify i (λx=>{ x with val:=z })).toArray clock),?_,h.write d hp hv _ _ rfl rfl rfl (sn _ _ _) (λk hk=>sl _ _ _ _ hk) (xu _ _ _ _ f) (L6 p clock (a.Wh hz i)),Fr.write d hp hv _ (sn _ _ _) (λk hk=>sl _ _ _ _ hk)⟩;have g:xs.toArray.findIdx? (λe=>(e.born:Int)==n)=U i:=by rw[List.findIdx?_toArray];exact b
    simp[jG,an,ah,l7,asInt,asIntOf,b,c]
   cases ha
  cases ha
 cases ha
def td(T:dd)(σ:bg)(t:TypeId)(x:ag):Option bg :=
 match T t,x with
 |some { fT:=.slice elem,.. },.ms id size off len=>match T elem,σ.bT id with
  |some a,U (.row e b es)=>if b=a.size/\size=a.size/\off+len=es.length/\a.zeroCells.all ag.one=IN then U (σ.set id (.row e b (es.take off)))else No
  |_,_=>No
 |_,_=>No
def Yl{P:Program}{T:dd}(ca:mc P T){G:cb}{σ σ':bg}{w:World}(h:Rel G σ w){t ty:TypeId}{id:Nat}{x:ag}{u:Value}(hx:lB G x u)
  (ha:td T σ t x=U σ'):lE G σ w σ' id (.bF (.tuple #[])) ((dQ #[t] ty #[u]).run P w):=by
 unfold td at ha;split at ha
 next elem _ _ _ _ id' size off len ht=>
  split at ha
  next d e sz es z B=>
   split at ha
   next hc=>
    obtain⟨rfl,rfl,hle,J⟩:=hc;cases ha;have hu:(underlying t).run P w=.ok (.slice elem) w:=nQ ca ht w;have f:len=0->lE G σ w (σ.set id' (.row e d.size (es.take off))) id (.bF (.tuple #[])) (.ok (.tuple #[]) w):=λs=>by
     have he:es.take off=es:=List.take_of_length_le (by omega);rw[he];have C:∀i o,(σ.set id' (.row e d.size es)).bT i=U o->σ.bT i=U o:=λi o a7=>by
      rw[bg.l1]at a7;split at a7
      next K=>subst K;cases a7;exact B
      exact a7
     exact⟨G,.tuple #[],w,.refl G,λ_ _ h=>h,rfl,.bF _,h.less rfl C,⟨aw _,λb M N=>rfl,λi x q h1 h2 h3 h4=>⟨i,x,q,by
      rw[bg.l1]at h1;split at h1
      next K=>subst K;cases h1;exact B
      exact h1,h2,h3,rfl⟩,λ_ _ h=>.inl h,aw _⟩⟩
    cases hx with
    |n4 _ _ p hp hv=>
     have s:(dQ #[t] ty #[.slice No 0 0]).run P w=.ok (.tuple #[]) w:=by simp[dQ,an,hu]
     rw[s];exact f rfl
    |ms _ _ _ _ p hp hv hz a c n hoff hl hsp=>
     cases len with
     |zero=>
      have s:(dQ #[t] ty #[.slice (U a) 0 c]).run P w=.ok (.tuple #[]) w:=by simp[dQ,an,hu]
      rw[s];exact f rfl
     |succ len=>
      obtain⟨_,_,cells,M,hs,N,hle2,g⟩:=h.real B hp hv;have O:a=⟨p.block,off*p.size,No⟩:=n (by omega);subst O;rw[hs];have Q:=ca.DC elem d z;have hlen:(aR d.zero.cells (len+1)).toList.length=(len+1)*d.size:=by simp[aR,Q]
      have D:∀v∈(aR d.zero.cells (len+1)).toList,v.oneCell'=IN:=λv hv=>by rw[Lt]at hv;obtain⟨l,R,E⟩:=br.1 hv;rw[fB R]at E;have:=ak.1 J (.bF v) (aP.2 ⟨v,by simpa using E,rfl⟩);exact lB.one (G:=G) this (.bF v)
      have hmul:off*d.size+(len+1)*d.size<=p.cap*d.size:=by rw[<-b_];exact bm _ (by omega)
      obtain⟨m,H,S,l7⟩:=DT (P:=P) p.block (off*d.size) e (aR d.zero.cells (len+1)).toList 0 cells w M (by rw[hlen,N];omega) D;refine⟨G,.tuple #[],nK w p.block (.cells m e (0,0)),.refl G,λ_ _ h=>h,?_,.bF _,?_,?_⟩
      .have s:∀(a:Addr),(dQ #[t] ty #[.slice (U a) (len+1) c]).run P w=((do storeCells a (aR (<-zeroValue elem).cells (len+1)).toList;pure (.tuple #[]):Sem Value)).run P w:=λa=>by simp[dQ,an,hu]
       have V:(zeroValue elem).run P w=.ok d.zero w:=by rw[vx ca z]
       rw[s];simp only[an,V,ah,H,ar]
      .refine h.write B hp hv (.cells m e (0,0)) _ rfl rfl rfl (sn _ _ _) (λk hk=>sl _ _ _ _ hk) (xu _ _ _ _ M) ⟨m,rfl,hs,by rw[S,N],by simp;omega,λi a7=>?_⟩
       have hi1:i<off:=by simp at a7;omega
       have r:i<es.length:=by simp at a7;omega
       rw[List.getElem_take];refine⟨(g i r).1,λj hj hk=>?_⟩;have I:i*d.size+j<cells.size:=by omega
       have:=(g i r).2 j hj I;have hj1:=(g i r).1;have hlt:i*d.size+j<off*d.size:=by have:(i+1)*d.size<=off*d.size:=bm _ hi1;rw[kV]at this;omega
       have hg:=l7 (i*d.size+j);rw[b8 (by omega)]at hg;have e2:m[i*d.size+j]=cells[i*d.size+j]:=by rw[aZ hk,aZ I]at hg;exact aQ hg
       rw[e2];exact this
      exact Fr.write B hp hv _ (sn _ _ _) (λk hk=>sl _ _ _ _ hk)
   cases ha
  cases ha
 cases ha
def tg(T:dd)(σ:bg)(id:Nat)(t:TypeId)(n c:ag):Option (ag×bg) :=
 match T t,n,c with
 |some { fT:=.slice elem,.. },.bF (.int d a),.bF (.int e f)=>match T elem with
  |some b=>if a=f/\d=e/\0<=a/\aa.wrap a=a/\b.bytes*a.toNat<=2^48 then
    U (.ms id b.size 0 a.toNat,σ.set id (.row elem b.size (bA a.toNat b.zeroCells)))else No
  |none=>No
 |_,_,_=>No
theorem YR{P:Program}{T:dd}(ca:mc P T){G:cb}{σ σ':bg}{w:World}(h:Rel G σ w){t:TypeId}{id:Nat}{n c v:ag}{E H:Value}(J:lB G n E)(hc:lB G c H)
  (hid:G.pl id=No) (r:id<σ.next) (ha:tg T σ id t n c=U (v,σ')):lE G σ w σ' id v ((jS t E H).run P w):=by
 unfold tg at ha;split at ha
 .rename_i elem _ _ _ _ O I Q R K
  split at ha
  .rename_i a d
   split at ha
   .rename_i g
    obtain⟨rfl,rfl,S,hw,j⟩:=g;cases ha;cases J;cases hc;obtain⟨N,rfl⟩:∃N:Nat,I=N:=⟨I.toNat,by omega⟩;have M:((N:Nat):Int).toNat=N:=by simp
    rw[M]at j⊢;obtain⟨i,s,u⟩:=M1 ca d w;have b:=ca.DC elem a d;have x:∀c∈bA N a.zeroCells,c.length=a.size:=λc hc=>by rw[fB hc];simp[mL.zeroCells,b]
    have z:(aR a.zero.cells N).size=N*a.size:=by simp[aR,b]
    obtain⟨p,l,B,C,D,m⟩:=Mz (P:=P) h elem (aR a.zero.cells N) (bA N a.zeroCells) a.size N x (vs:=(bA N a.zero.cells.toList).flatten) (gl.Py _ N)
     (λk v hv=>by rw[<-Lt]at hv;simpa using hv) z (by simp) id hid r
    have f:lE G σ w (σ.set id (.row elem a.size (bA N a.zeroCells))) id (.ms id a.size 0 N) (.ok (.slice (U ⟨w.heap.size,0,No⟩) N N) { w with heap:=w.heap.push (.cells (aR a.zero.cells N) elem) }):=by refine lE.place (p:=p) hid ?_ m (Fr.push _ id hid p (λ_=>l) _ w.drawn);exact .ms id _ 0 N p (cb.qd _ _ _) D B _ N (λ_=>by rw[l];simp) (by rw[C];simp) (aw _) rfl
    have o:¬((i.bytes:Int)*(N:Int) > 2^48):=by rw[u];have:((a.bytes*N:Nat):Int)<=((2^48:Nat):Int):=Int.ofNat_le.2 j;simpa using this
    have q:¬((N:Int)<0):=by omega
    unfold jS;simp only[an,nQ ca K,ah,asInt,asIntOf,ar,s,hw,q,o,mD,Bool.or_self,Bool.false_or,Int.lt_irrefl,j2,gt_iff_lt,aq,run_askRoom,p1 ca d,dG];by_cases e:N*a.size=0
    .have hz:(bf 0).map ((#[]:Array Value)[·%(#[]:Array Value).size]!)=aR a.zero.cells N:=by simp[aR,b,e]
     simp only[e,jj,an,ar,ah,hz,newRow,run_newObj];exact f
    have hz:(bf (N*a.size)).map (a.zero.cells[·%a.size]!)=aR a.zero.cells N:=by simp[aR,b]
    simp only[e,j2,an,ar,ah,vx ca d,b,hz,newRow,run_newObj];exact f
   cases ha
  cases ha
 cases ha
def sB(T:dd)(σ:bg)(t:TypeId)(x y:ag):Option bg :=
 match T t,x with
 |some { fT:=.slice elem,.. },.ms id size 0 len=>match T elem,σ.bT id,nV σ y with
  |some a,U (.row e b es),U xs=>if b=a.size/\size=a.size/\len=es.length/\xs.length=len/\(xs.all λc=>c.length==a.size&&c.all ag.one)=IN then U (σ.set id (.row e b xs))else No
  |_,_,_=>No
 |_,_=>No
def bn1{P:Program}{T:dd}(ca:mc P T){G:cb}{σ σ':bg}{w:World}(h:Rel G σ w){t t2 ty:TypeId}{id:Nat}{x y:ag}{u u2:Value}(hx:lB G x u)(hy:lB G y u2)
  (ha:sB T σ t x y=U σ'):lE G σ w σ' id .any ((fu #[t,t2] ty #[u,u2]).run P w):=by
 unfold sB at ha;split at ha
 next elem _ _ _ _ id' size len ht=>
  split at ha
  next r e sz es xs H O I=>
   split at ha
   next hc=>
    obtain⟨rfl,rfl,rfl,hlen,J⟩:=hc;cases ha;have g:∀c∈xs,c.length=r.size/\c.all ag.one=IN:=λc hc=>by have:=ak.1 J c hc;simpa using this
    obtain⟨⟨ya,yc,Q⟩,vs,j,d⟩:=Ka (P:=P) h hy I r.size (λc hc=>(g c hc).1);have K:vs.length=xs.length*r.size:=by rw[d.1,tn λc hc=>(g c hc).1]
    subst Q;have hu:(underlying t).run P w=.ok (.slice elem) w:=nQ ca ht w;have hm:Nat.min xs.length es.length=xs.length:=by rw[hlen];exact Nat.min_self _
    have s:∀c,(fu #[t,t2] ty #[.slice No es.length c,.slice ya xs.length yc]).run P w=.ok (goInt xs.length) w:=λc=>by simp[fu,an,hu,gf,hm,p1 ca H,j]
    have M:∀a c,(fu #[t,t2] ty #[.slice (U a) es.length c,.slice ya xs.length yc]).run P w=((do storeCells a vs;pure (goInt xs.length):Sem Value)).run P w:=λa c=>by simp[fu,an,hu,gf,hm,p1 ca H,j]
    have f:es.length=0->lE G σ w (σ.set id' (.row e r.size xs)) id .any (.ok (goInt xs.length) w):=λe0=>by
     have he:xs=es:=by have h1:es=[]:=bu e0;have h2:xs=[]:=bu (by omega);rw[h1,h2]
     rw[he];have l:∀i o,(σ.set id' (.row e r.size es)).bT i=U o->σ.bT i=U o:=λi o a7=>by
      rw[bg.l1]at a7;split at a7
      next e1=>subst e1;cases a7;exact O
      exact a7
     exact⟨G,_,w,.refl G,λ_ _ h=>h,rfl,.any _,h.less rfl l,⟨aw _,λb R S=>rfl,λi x q h1 h2 h3 h4=>⟨i,x,q,l _ _ h1,h2,h3,rfl⟩,λ_ _ h=>.inl h,aw _⟩⟩
    generalize B:es.length=n at hx;cases hx with
    |n4 _ _ p hp hv=>have:=s 0;rw[B]at this;rw[this];exact f B
    |ms _ _ _ _ p hp hv hz a c C hoff hl hsp=>
     have h9:=M a c;rw[B]at h9;rw[h9];cases hes:es.length with
     |zero=>have:vs=[]:=bu (by rw[K,hlen,hes];simp);subst this;simp only[storeCells,an,ar,ah];exact f hes
     |succ m=>
      obtain⟨_,_,cells,R,hs,S,hle2,hrow⟩:=h.real O hp hv;have V:a=⟨p.block,0*p.size,No⟩:=C (by omega);subst V;rw[hs,gL];have hmul:xs.length*r.size<=p.cap*r.size:=bm _ (by omega);obtain⟨D,E,hsz,l7⟩:=DT (P:=P) p.block 0 e vs 0 cells w R (by rw[K,S];omega) (λz hz=>by
       obtain⟨k,hk,rfl⟩:=aH hz;have N:k<xs.flatten.length:=by rw[<-d.1];exact hk
       refine(d.2 k N hk).one ?_;obtain⟨c,hc1,hc2⟩:=br.1 (au N);exact ak.1 (g c hc1).2 _ hc2)
      simp only[an,E,ah,ar];refine⟨G,_,nK w p.block (.cells D e (0,0)),.refl G,λ_ _ h=>h,rfl,.any _,?_,?_⟩
      .refine h.write O hp hv (.cells D e (0,0)) _ rfl rfl rfl (sn _ _ _) (λk hk=>sl _ _ _ _ hk) (xu _ _ _ _ R) ⟨D,rfl,hs,by rw[hsz,S],by omega,?_⟩
       exact Me (λc hc=>(g c hc).1) d (λk v hv=>by
        have hg:=l7 k;have hk:k<vs.length:=by
         rcases dc k vs.length with h'|h'
         .exact h'
         rw[bM h']at hv;cases hv
        rw[b9 (by omega)]at hg;simpa[hv]using hg)
      exact Fr.write O hp hv _ (sn _ _ _) (λk hk=>sl _ _ _ _ hk)
   cases ha
  cases ha
 cases ha
def nf(G:cb)(σ:bg)(w:World)(σ':bg)(id:Nat)(v:ag)(r:Result Next):Prop :=∃G' u w',G.le G'/\(∀i,i≠id->G.pl i=No->G'.pl i=No)/\(r=.ok (.value u) w'\/(r=.ok .skip w'/\u=undef))/\lB G' v u/\Rel G' σ' w'/\Fr G σ w G' σ' w'
def nf.of{P:Program}{G:cb}{σ σ':bg}{id:Nat}{v:ag}{s:Sem Value}{w:World}(h:lE G σ w σ' id v (s.run P w)):nf G σ w σ' id v ((do pure (Next.value (<-s)):Sem Next).run P w):=by obtain⟨G',u,w',h1,h2,a,b,c⟩:=h;exact⟨G',u,w',h1,h2,.inl (by simp[a]),b,c⟩
def nf.unit{P:Program}{G:cb}{σ σ':bg}{id:Nat}{s:Sem Unit}{w w':World}(hs:s.run P w=.ok () w')(h:Rel G σ' w'/\Fr G σ w G σ' w'):nf G σ w σ' id (.bF undef) ((do s;pure Next.skip:Sem Next).run P w) :=⟨G,undef,w',.refl G,λ_ _ h=>h,.inr ⟨by simp[hs],rfl⟩,.bF _,h⟩
def nf.same{G:cb}{σ:bg}{id:Nat}{v:ag}{u:Value}{w:World}(a:lB G v u)(h:Rel G σ w):nf G σ w σ id v (.ok (.value u) w) :=⟨G,u,w,.refl G,λ_ _ h=>h,.inl rfl,a,h,.refl _ _ _⟩
def pt(T:dd)(σ:bg)(t:TypeId)(x:ag):Option ag :=
 match T t with
 |some ti=>match ti.fT,x with
  | .slice _,.ms _ _ _ len=>U (.bF (goInt len))
  | .slice _,.rs es=>U (.bF (goInt es.length))
  | .slice _,.bF (.slice No 0 0)=>U (.bF (goInt 0))
  | .string,.bF (.string s)=>U (.bF (goInt s.size))
  | .array n _,_=>U (.bF (goInt n))
  | .map _ _,.lX id=>match σ.bT id with
   |some (.map _ es _)=>U (.bF (goInt es.length))
   |_=>No
  |_,_=>No
 |none=>No
def Zt{P:Program}{T:dd}(ca:mc P T){G:cb}{σ:bg}{w:World}(h:Rel G σ w){t ty:TypeId}{id:Nat}{x v:ag}{u:Value}(c:lB G x u)(ha:pt T σ t x=U v) :
  lE G σ w σ id v ((dH #[t] ty #[u]).run P w):=by
 unfold pt at ha;split at ha
 next ti j=>
  have a:=nQ ca j w;have go:∀n:Int,(dH #[t] ty #[u]).run P w=.ok (goInt n) w->lE G σ w σ id (.bF (goInt n)) ((dH #[t] ty #[u]).run P w):=λn l=>by rw[l];exact lE.same (.bF _) h
  split at ha
  next e i q o len hu=>
   cases ha;rw[hu]at a;apply go;cases c<;>simp[dH,a]
  next e es hu=>
   cases ha;rw[hu]at a;apply go;cases c<;>simp[dH,a]
  next e hu=>
   cases ha;rw[hu]at a;apply go;cases c;simp[dH,a]
  next s hu=>
   cases ha;rw[hu]at a;apply go;cases c;simp[dH,a]
  next n e _ hu=>
   cases ha;rw[hu]at a;apply go;simp[dH,a]
  next k e id' hu=>
   split at ha
   next agg es clock g=>
    cases ha;rw[hu]at a;apply go;cases c with
    |lX _ p hp=>
    have hv:p.mF=IS:=by
     rcases h.uv g hp with⟨_,_,_,f⟩|⟨f,_⟩
     .cases f
     exact f
    obtain⟨_,_,d⟩:=h.real g hp hv;obtain⟨xs,m,b⟩:=Hd d;have l7:(getObj p.block).run P w=.ok (.map xs.toArray clock) w:=by simp[getObj,iy,m]
    simp[dH,a,l7,b.length]
   cases ha
  cases ha
 cases ha
def xO(k:IntKind):Int->List ag->Option Value
 |a,[]=>U (.int k a)
 |a,.bF (.int _ b)::rest=>xO k (if b > a then b else a) rest
 |_,_=>No
def xQ(k:IntKind):Int->List ag->Option Value
 |a,[]=>U (.int k a)
 |a,.bF (.int _ b)::rest=>xQ k (if b<a then b else a) rest
 |_,_=>No
def yp:List ag->Option Value
 | .bF (.int k a)::rest=>xO k a rest
 |_=>No
def zH:List ag->Option Value
 | .bF (.int k a)::rest=>xQ k a rest
 |_=>No
theorem TO{P:Program}{G:cb}{w:World}(k:IntKind):∀(l:List ag) (vs:List Value) (a:Int) (v:Value),gl G l vs->xO k a l=U v->(vs.foldlM j_ (.int k a):Sem Value).run P w=.ok v w
 | [],vs,a,v,h,ha=>by rw[h.s_];simp[xO]at ha;subst ha;simp
 |c::l,vs,a,v,h,ha=>by
  obtain⟨x,d,rfl,h1,h2⟩:=h.cons_inv;unfold xO at ha;split at ha
  .rename_i e;cases e
  .rename_i f b rest e
   cases e;cases h1;have:=TO (P:=P) (w:=w) k l d _ v h2 ha;simp only[jT,an,j_,ar,ah];exact this
  cases ha
theorem T0{P:Program}{G:cb}{w:World}(k:IntKind):∀(l:List ag) (vs:List Value) (a:Int) (v:Value),gl G l vs->xQ k a l=U v->(vs.foldlM ka (.int k a):Sem Value).run P w=.ok v w
 | [],vs,a,v,h,ha=>by rw[h.s_];simp[xQ]at ha;subst ha;simp
 |c::l,vs,a,v,h,ha=>by
  obtain⟨x,d,rfl,h1,h2⟩:=h.cons_inv;unfold xQ at ha;split at ha
  .rename_i e;cases e
  .rename_i f b rest e
   cases e;cases h1;have:=T0 (P:=P) (w:=w) k l d _ v h2 ha;simp only[jT,an,ka,ar,ah];exact this
  cases ha
def Yz{P:Program}{G:cb}{w:World}{l:List ag}{vs:List Value}{v:Value}{at_:Array TypeId}{ty:TypeId}(h:gl G l vs)(ha:yp l=U v):(Builtin.max_ at_ ty vs.toArray).run P w=.ok v w:=by
 unfold yp at ha;split at ha
 .obtain⟨x,a,rfl,h1,h2⟩:=h.cons_inv
  cases h1;exact TO _ _ _ _ _ h2 ha
 cases ha
def YD{P:Program}{G:cb}{w:World}{l:List ag}{vs:List Value}{v:Value}{at_:Array TypeId}{ty:TypeId}(h:gl G l vs)(ha:zH l=U v):(Builtin.min_ at_ ty vs.toArray).run P w=.ok v w:=by
 unfold zH at ha;split at ha
 .obtain⟨x,a,rfl,h1,h2⟩:=h.cons_inv
  cases h1;exact T0 _ _ _ _ _ h2 ha
 cases ha
def pC(T:dd)(σ:bg)(id:Nat)(b:Builtin)(ts:Array TypeId)(args:List ag):Option (ag×bg) :=
 match b,ts.toList,args with
 | .len,[t],[x]=>match pt T σ t x with
  |some v=>U (v,σ)
  |none=>No
 | .append,[s,x],[a,c]=>qt T σ id s x a c
 | .cap,[t],[x]=>match zT T t x with
  |some v=>U (v,σ)
  |none=>No
 | .max,_,l=>match yp l with
  |some v=>U (.bF v,σ)
  |none=>No
 | .min,_,l=>match zH l with
  |some v=>U (.bF v,σ)
  |none=>No
 | .clear,[t],[x]=>match td T σ t x with
  |some σ'=>U (.bF (.tuple #[]),σ')
  |none=>No
 | .copy,[t,_],[x,y]=>match sB T σ t x y with
  |some σ'=>U (.any,σ')
  |none=>No
 |_,_,_=>No
def j5(T:dd)(e:Operand->ag)(σ:bg)(id:Nat)(op:Op):Option (ag×bg) :=
 match op with
 | .move x| .assign x=>U (e x,σ)
 | .pick c a b=>match e c with
  | .bF (.bool t)=>U (if t then e a else e b,σ)
  |_=>No
 | .alloc t=>zc T σ id t
 | .box t x=>yi σ id t (e x)
 | .build t g=>match ze T t (g.toList.map λ(i,x)=>(i,e x))with
  |some v=>U (v,σ)
  |none=>No
 | .buildSlice t len g=>vh T σ id t len (g.toList.map λ(i,x)=>(i,e x))
 | .load t x=>match sQ T σ t (e x)with
  |some v=>U (v,σ)
  |none=>No
 | .store t a x=>match rA T σ t (e a) (e x)with
  |some σ'=>U (.bF undef,σ')
  |none=>No
 | .nilCheck x=>match e x with
  | .mp i j k=>U (.mp i j k,σ)
  | .h8 cs=>U (.h8 cs,σ)
  | .fn (.func f) a b=>U (.fn (.func f) a b,σ)
  |_=>No
 | .binOp o t x y _=>match qH T o t (e x) (e y)with
  |some v=>U (v,σ)
  |none=>No
 | .unOp o _ x=>match vu o (e x)with
  |some v=>U (v,σ)
  |none=>No
 | .convert s d x=>match vR T s d (e x)with
  |some v=>U (v,σ)
  |none=>No
 | .makeFunc f a c=>U (.fn f (a.toList.map e) (c.toList.map e),σ)
 | .makeMap _ No=>U (.lX id,σ.set id (.map IS [] 0))
 | .makeSlice t n c=>tg T σ id t (e n) (e c)
 | .slice t x b5 a7 pX=>match qz T t (e x) (b5.map e) (a7.map e) (pX.map e)with
  |some v=>U (v,σ)
  |none=>No
 | .fieldAddr t x f=>match wx T t (e x) f with
  |some v=>U (v,σ)
  |none=>No
 | .field t x f=>match Bc T t (e x) f with
  |some v=>U (v,σ)
  |none=>No
 | .indexAddr t x i=>match qf T t (e x) (e i)with
  |some v=>U (v,σ)
  |none=>No
 | .index t x i=>match uV T t (e x) (e i)with
  |some v=>U (v,σ)
  |none=>No
 | .lookup t x i ok=>match oW T σ t (e x) (e i) ok with
  |some v=>U (v,σ)
  |none=>No
 | .mapUpdate t m k x| .insert t m k x=>match q3 T σ t (e m) (e k) (e x)with
  |some σ'=>U (.bF undef,σ')
  |none=>No
 | .mapEntry t m k=>vm T σ t (e m) (e k)
 | .entryStore _ m s x=>match vi σ (e m) (e s) (e x)with
  |some σ'=>U (.bF undef,σ')
  |none=>No
 | .extract x i=>match AG (e x) i with
  |some v=>U (v,σ)
  |none=>No
 | .call { callee:=.builtin b,args,argTypes }=>pC T σ id b argTypes (args.toList.map e)
 |_=>No
def gl.map{G:cb}{b:Operand->ag}{ev:Operand->Value}(a:∀x,lB G (b x) (ev x)):∀l:List Operand,gl G (l.map b) (l.map ev)
 | []=>.nil G
 |x::l=>.cons (a x) (gl.map a l)
def gl.S9{G:cb}{b:Operand->ag}{ev:Operand->Value}(c:∀x,lB G (b x) (ev x))(l:List (Nat×Operand)) :
  (l.map λ(i,x)=>(i,b x)).map (·.1)=(l.map λ(i,x)=>(i,ev x)).map (·.1)/\gl G ((l.map λ(i,x)=>(i,b x)).map (·.2)) ((l.map λ(i,x)=>(i,ev x)).map (·.2)):=by
 refine⟨by simp,?_⟩
 induction l with
 |nil=>exact .nil G
 |cons a l d=>exact .cons (c a.2) d
def vb.map{G:cb}{b:Operand->ag}{ev:Operand->Value}(a:∀x,lB G (b x) (ev x))(o:Option Operand):vb G (o.map b) (o.map ev):=by
 cases o with
 |none=>trivial
 |some x=>exact a x
def Pw{P:Program}{T:dd}(ca:mc P T){G:cb}{σ σ':bg}{w:World}(h:Rel G σ w){S:Operand->ag}{ev:Operand->Value}(q:∀x,lB G (S x) (ev x)){id:Nat}(hid:G.pl id=No)(H:id<σ.next)
  {o:Oper} {v:ag} (ha:j5 T S σ id o.op=U (v,σ')):nf G σ w σ' id v ((execOp ev o).run P w):=by
 cases g:o.op with
 |move x=>rw[g]at ha;cases ha;simp only[execOp,g,ar];exact nf.same (q x) h
 |assign x=>rw[g]at ha;cases ha;simp only[execOp,g,ar];exact nf.same (q x) h
 |pick c a b=>
  rw[g]at ha;simp only[j5]at ha;split at ha
  next t hc=>
   cases ha;have:=q c;rw[hc]at this;generalize O:ev c=u at this;cases this;simp only[execOp,g,O,an,asBool,ar,ah];refine nf.same ?_ h;cases t<;>simp<;>exact q _
  cases ha
 |alloc t=>rw[g]at ha;simp only[j5]at ha;simp only[execOp,g];exact nf.of (bk2 ca h hid H ha)
 |box t x=>rw[g]at ha;simp only[j5]at ha;simp only[execOp,g];exact nf.of (Zw h (q x) hid H ha)
 |build t M=>
  rw[g]at ha;simp only[j5]at ha;split at ha
  next E hv=>
   cases ha;simp only[execOp,g];obtain⟨h1,h2⟩:=gl.S9 q M.toList;have:=bg6 (P:=P) (id:=id) ca h h1 h2 hv;refine nf.of ?_;have e:(M.toList.map λ(x:Nat×Operand)=>(x.1,ev x.2)).toArray=M.map λx=>(x.1,ev x.2):=by apply dz;simp
   rw[e]at this;exact this
  cases ha
 |buildSlice t len M=>
  rw[g]at ha;simp only[j5]at ha;simp only[execOp,g];obtain⟨h1,h2⟩:=gl.S9 q M.toList;have:=ax6 (P:=P) ca h h1 h2 hid H ha;refine nf.of ?_;have e:(M.toList.map λ(x:Nat×Operand)=>(x.1,ev x.2)).toArray=M.map λx=>(x.1,ev x.2):=by apply dz;simp
  rw[e]at this;exact this
 |load t x=>
  rw[g]at ha;simp only[j5]at ha;split at ha
  next E hv=>
   cases ha;simp only[execOp,g];exact nf.of (bg5 ca h (q x) hv)
  cases ha
 |store t a x=>
  rw[g]at ha;simp only[j5]at ha;split at ha
  next σ1 hv=>
   cases ha;simp only[execOp,g];obtain⟨w',h1,h2⟩:=bi5 (P:=P) ca h (q a) (q x) hv;exact nf.unit h1 h2
  cases ha
 |nilCheck x=>
  rw[g]at ha;simp only[j5]at ha;have I:=q x;simp only[execOp,g];split at ha
  next i j k e=>
   cases ha;rw[e]at I;generalize ev x=u at I;have K:=I;cases I;exact nf.same K h
  next cs e=>
   cases ha;rw[e]at I;generalize ev x=u at I;have K:=I;cases I;exact nf.same K h
  next f a b e=>
   cases ha;rw[e]at I;generalize ev x=u at I;have K:=I;cases I;exact nf.same K h
  cases ha
 |binOp b t x y yt=>
  rw[g]at ha;simp only[j5]at ha;split at ha
  next E hv=>
   cases ha;simp only[execOp,g];exact nf.of (Zi ca h (q x) (q y) hv)
  cases ha
 |unOp b t x=>
  rw[g]at ha;simp only[j5]at ha;split at ha
  next E hv=>
   cases ha;simp only[execOp,g];exact nf.of (ae9 h (q x) hv)
  cases ha
 |convert s d x=>
  rw[g]at ha;simp only[j5]at ha;split at ha
  next E hv=>
   cases ha;simp only[execOp,g];exact nf.of (bs3 ca h (q x) hv)
  cases ha
 |makeFunc f a c=>
  rw[g]at ha;cases ha;simp only[execOp,g];refine nf.of ?_;simp only[Instr.makeFunc,ar];refine lE.same ?_ h;have h1:=gl.map q a.toList;have h2:=gl.map q c.toList;have:=lB.fn (G:=G) f _ _ _ _ h1.1 h2.1 h1.2 h2.2;have e:∀l:Array Operand,(l.toList.map ev).toArray=l.map ev:=λl=>by apply dz;simp
  rw[e,e]at this;exact this
 |makeSlice t n c=>rw[g]at ha;simp only[j5]at ha;simp only[execOp,g];exact nf.of (YR ca h (q n) (q c) hid H ha)
 |makeMap t r=>
  rw[g]at ha;cases r with
  |some r=>simp[j5]at ha
  |none=>cases ha;simp only[execOp,g];refine nf.of ?_;simp only[Instr.makeMap,an,run_newObj,ah,ar,Option.map_none];let p:nm:={ block:=w.heap.size,size:=1,cap:=1 };have V:=h.push (.map #[] 0) id hid H p rfl rfl (.map IS [] 0) ⟨#[],rfl,rfl,λi a7=>by simp at a7⟩;exact lE.place (p:=p) hid (.lX id p (cb.qd _ _ _)) V (Fr.push _ id hid p (λ_=>rfl) _ w.drawn)
 |slice t x b5 a7 pX=>
  rw[g]at ha;simp only[j5]at ha;split at ha
  next E hv=>
   cases ha;simp only[execOp,g];exact nf.of (bi4 ca h (q x) (vb.map q b5) (vb.map q a7) (vb.map q pX) hv)
  cases ha
 |fieldAddr t x f=>
  rw[g]at ha;simp only[j5]at ha;split at ha
  next E hv=>
   cases ha;simp only[execOp,g];exact nf.of (aA9 ca h (q x) hv)
  cases ha
 |field t x f=>
  rw[g]at ha;simp only[j5]at ha;split at ha
  next E hv=>
   cases ha;simp only[execOp,g];exact nf.of (bi9 ca h (q x) hv)
  cases ha
 |indexAddr t x i=>
  rw[g]at ha;simp only[j5]at ha;split at ha
  next E hv=>
   cases ha;simp only[execOp,g];exact nf.of (az9 ca h (q x) (q i) hv)
  cases ha
 |index t x i=>
  rw[g]at ha;simp only[j5]at ha;split at ha
  next E hv=>
   cases ha;simp only[execOp,g];exact nf.of (bd5 ca h (q x) (q i) hv)
  cases ha
 |lookup t x i ok=>
  rw[g]at ha;simp only[j5]at ha;split at ha
  next E hv=>
   cases ha;simp only[execOp,g];exact nf.of (bb6 ca h (q x) (q i) hv)
  cases ha
 |mapUpdate t m k x=>
  rw[g]at ha;simp only[j5]at ha;split at ha
  next σ1 hv=>
   cases ha;simp only[execOp,g];obtain⟨w',h1,h2⟩:=RR (P:=P) ca h (q m) (q k) (q x) hv;exact nf.unit h1 h2
  cases ha
 |insert t m k x=>
  rw[g]at ha;simp only[j5]at ha;split at ha
  next σ1 hv=>
   cases ha;simp only[execOp,g];obtain⟨w',h1,h2⟩:=RR (P:=P) ca h (q m) (q k) (q x) hv;exact nf.unit h1 h2
  cases ha
 |mapEntry t m k=>rw[g]at ha;simp only[j5]at ha;simp only[execOp,g];exact nf.of (aC4 ca h (q m) (q k) ha)
 |entryStore t m s x=>
  rw[g]at ha;simp only[j5]at ha;split at ha
  next σ1 he=>
   cases ha;simp only[execOp,g];obtain⟨w',h1,h2⟩:=ax8 (P:=P) (t:=t) h (q m) (q s) (q x) he;exact nf.unit h1 h2
  cases ha
 |extract x i=>
  rw[g]at ha;simp only[j5]at ha;split at ha
  next E hv=>
   cases ha;simp only[execOp,g];exact nf.of (aQ4 h (q x) hv)
  cases ha
 |call c=>
  rw[g]at ha;obtain⟨callee,args,ts⟩:=c;cases callee with
  |value f=>simp[j5]at ha
  |invoke r m=>simp[j5]at ha
  |builtin b=>
   simp only[j5]at ha;have z:=gl.map q args.toList;have B:(args.toList.map ev).toArray=args.map ev:=by apply dz;simp
   simp only[execOp,g,resolve,an,ar,ah,invoke];unfold pC at ha;split at ha
   next t x D hl=>
    split at ha
    next E hv=>
     cases ha;have C:ts=#[t]:=by apply dz;simpa using D
     rw[hl]at z;obtain⟨u,us,J,h1,h2⟩:=z.cons_inv;rw[h2.s_]at J;rw[<-B,J,C];exact nf.of (Zt ca h h1 hv)
    cases ha
   next s x a c D hl=>
    have C:ts=#[s,x]:=by apply dz;simpa using D
    rw[hl]at z;obtain⟨u,us,J,h1,h2⟩:=z.cons_inv;obtain⟨y,ys,N,Q,R⟩:=h2.cons_inv;rw[R.s_]at N;rw[<-B,J,N,C];exact nf.of (aR0 ca h h1 Q hid H ha)
   next t x D hl=>
    split at ha
    next E hv=>
     cases ha;have C:ts=#[t]:=by apply dz;simpa using D
     rw[hl]at z;obtain⟨u,us,J,h1,h2⟩:=z.cons_inv;rw[h2.s_]at J;rw[<-B,J,C];exact nf.of (Y0 ca h h1 hv)
    cases ha
   .split at ha
    next E hv=>
     cases ha;rw[<-B];refine nf.of ?_;rw[Yz z hv];exact lE.same (.bF _) h
    cases ha
   .split at ha
    next E hv=>
     cases ha;rw[<-B];refine nf.of ?_;rw[YD z hv];exact lE.same (.bF _) h
    cases ha
   next t x D hl=>
    split at ha
    next σ1 hv=>
     cases ha;have C:ts=#[t]:=by apply dz;simpa using D
     rw[hl]at z;obtain⟨u,us,J,h1,h2⟩:=z.cons_inv;rw[h2.s_]at J;rw[<-B,J,C];exact nf.of (Yl ca h h1 hv)
    cases ha
   next s x a c D hl=>
    split at ha
    next σ1 hv=>
     cases ha;have C:ts=#[s,x]:=by apply dz;simpa using D
     rw[hl]at z;obtain⟨u,us,J,h1,h2⟩:=z.cons_inv;obtain⟨y,ys,N,Q,R⟩:=h2.cons_inv;rw[R.s_]at N;rw[<-B,J,N,C];exact nf.of (bn1 ca h h1 Q hv)
    cases ha
   cases ha
 |_=>rw[g]at ha;simp[j5]at ha
structure AS where
 n:Nat
 mv:fb ag
 st:bg
def AS.get(s:AS)(t:Nat):ag:=(s.mv.get t).getD (.bF undef)
def AS.put(s:AS)(d:Option Tmp)(v:ag):AS :=
 match d with
 |some d=>{ s with mv:=s.mv.set d (U v) }
 |none=>s
def AS.eval(s:AS):Operand->ag
 | .tmp t=>s.get t
 | .const v=>.ofValue v
 | .global g=>.bF (.pointer (U ⟨g,0,No⟩))
 | .func f=>.fn (.func f) [] []
def AS.Hx(s:AS)(d:Nat)(v:ag)(t:Nat):(s.put (U d) v).get t=if t=d then v else s.get t:=by simp only[AS.get,AS.put,fb.E0];split<;>rfl
@[simp] theorem AS.bv3 (s:AS) (d:Option Tmp) (v:ag):(s.put d v).n=s.n:=by cases d<;>rfl
@[simp] theorem AS.Bt (s:AS) (d:Option Tmp) (v:ag):(s.put d v).st=s.st:=by cases d<;>rfl
structure np(G:cb)(s:AS)(a:Act)(w:World):Prop where
 defers:a.defers=[]
 size:a.tmps.size=s.n
 tmps:∀t,lB G (s.get t) (a.tmps.getD t undef)
 rel:Rel G s.st w
def np.eval{G:cb}{s:AS}{a:Act}{w:World}(h:np G s a w)(x:Operand):lB G (s.eval x) (a.eval x):=by
 cases x with
 |tmp t=>exact h.tmps t
 |const v=>exact lB.ofValue G v
 |global g=>exact .bF _
 |func f=>exact .fn _ [] [] [] [] rfl rfl (λi h=>by simp at h) (λi h=>by simp at h)
def oJ(n:Nat):Option Tmp->Bool
 |some d=>d<n
 |none=>IN
def np.put{G G':cb}{s:AS}{a:Act}{w w':World}{σ':bg}(h:np G s a w)(b:G.le G')(c:Rel G' σ' w'){v:ag}{u:Value}(hv:lB G' v u){d:Option Tmp}(f:oJ s.n d=IN) :
  np G' ({ s with st:=σ' }.put d v) (a.put d u) w':=by
 cases d with
 |none=>exact⟨h.defers,h.size,λt=>(h.tmps t).mono b,c⟩
 |some d=>
  refine⟨h.defers,by simp[kp,AS.put,h.size],λt=>?_,c⟩;rw[AS.Hx];simp only[oJ,gb]at f;simp only[kp];by_cases e:t=d
  .subst e
   rw[b9 rfl];simp[h.size,f];exact hv
  rw[b8 e];have:(a.tmps.setIfInBounds d u).getD t undef=a.tmps.getD t undef:=by simp[cw,Ne.symm e]
  rw[this];exact(h.tmps t).mono b
def Bp(n:Nat)(G G':cb):Prop:=∀i,i<n->G.pl i=No->G'.pl i=No
def Bp.refl(n:Nat)(G:cb):Bp n G G:=λ_ _ h=>h
def Bp.trans{n m:Nat}{A B C:cb}(h:Bp n A B)(k:Bp m B C)(a:n<=m):Bp n A C:=λi a7 ha=>k i (by omega) (h i a7 ha)
structure sE(n:Nat)(G:cb)(σ:bg)(w:World)(G':cb)(σ':bg)(w':World):Prop where
 le:G.le G'
 keeps:Bp n G G'
 next:σ.next<=σ'.next
 bb:Fr G σ w G' σ' w'
def sE.refl(n:Nat)(G:cb)(σ:bg)(w:World):sE n G σ w G σ w:=⟨.refl G,.refl n G,aw _,.refl G σ w⟩
def sE.trans{n m:Nat}{d e f:cb}{σ1 a b:bg}{g i j:World}(h:sE n d σ1 g e a i)(k:sE m e a i f b j)(c:n<=m):sE n d σ1 g f b j :=⟨h.le.trans k.le,h.keeps.trans k.keeps c,bI h.next k.next,h.bb.trans k.bb⟩
def uh(P:Program)(f:FuncId)(args:List ag)(σ:bg)(R:ag->bg->Prop):Prop :=∀G vs w,gl G args vs->Rel G σ w->Calls P f vs.toArray w λe w'=>∃v a σ' G',e=.returned v/\sE σ.next G σ w G' σ' w'/\lB G' a v/\Rel G' σ' w'/\R a σ'
def po(P:Program)(f:FuncId)(args:List ag)(σ:bg)(R:ag->bg->Prop):Prop :=
 ∀G vs w,gl G args vs->Rel G σ w->∀(o:Oper) (a:Act) (K:Act->World->Prop) (Q:Exit->Act->World->Prop),
  (∀u b σ' G' w',sE σ.next G σ w G' σ' w'->lB G' b u->Rel G' σ' w'->R b σ'->K (a.put o.dst u) w')->o.upon P a K Q ((callFunc f vs.toArray).run P w)
def po.CY {P:Program} {f:FuncId} {args:List ag} {σ:bg} {R:ag->bg->Prop} {fn:Func} (g:P.funcs[f]?=U fn) (b:(fn.name== "runtime.NumGoroutine")=IS) (c:fn.body.isNone=IS)
  (h:uh P f args σ R):po P f args σ R:=by
 intro G vs w h1 h2 o a K Q i;have d:(callFunc f vs.toArray).run P w=.ok (.enter f vs.toArray) w:=by simp only[callFunc,an,run_program,ah,g,b,c,aq,j2,ar]
 rw[d];simp only[eQ];refine(h G _ w h1 h2).mono ?_;rintro e w' ⟨v,j,σ',G',rfl,k,l,m,n⟩;exact i v j σ' G' w' k l m n
def mY(P:Program)(c:Code)(Q:Exit->AS->Prop)(s:AS):Prop :=∀G a w,np G s a w->c.wp P (λe b w'=>∃s' G',sE s.st.next G s.st w G' s'.st w'/\np G' s' b w'/\Q e s') a w
section
variable {P:Program} {Q:Exit->AS->Prop} {s:AS}
def mY.skip(h:Q .normal s):mY P .skip Q s:=λG _ _ a=>wp_skip ⟨s,G,.refl _ _ _ _,a,h⟩
def mY.label{l:Nat}(h:Q .normal s):mY P (.label l) Q s:=λG _ _ a=>wp_label ⟨s,G,.refl _ _ _ _,a,h⟩
def mY.exit{id:Nat}(h:Q (.exit id) s):mY P (.exit id) Q s:=λG _ _ a=>wp_exit ⟨s,G,.refl _ _ _ _,a,h⟩
def mY.ret(h:Q .ret s):mY P .ret Q s:=λG _ _ a=>wp_ret ⟨s,G,.refl _ _ _ _,a,h⟩
def Bq(K:AS->Prop)(Q:Exit->AS->Prop):Exit->AS->Prop
 | .normal,s=>K s
 |e,s=>Q e s
def mY.seq{x y:Code}(h:mY P x (Bq (mY P y Q) Q) s):mY P (.seq x y) Q s:=by
 intro G a w c;refine wp_seq (wp_mono (h G a w c) ?_);rintro e d w' ⟨s',G',b,a2,a3⟩;cases e with
 |normal=>refine wp_mono (a3 G' d w' a2) ?_;rintro l f m ⟨s2,g,i,j,k⟩;exact⟨s2,g,b.trans i b.next,j,k⟩
 |_=>exact⟨s',G',b,a2,a3⟩
def mY.cond{c:Operand}{x y:Code}{t:Bool}(hc:s.eval c=.bF (.bool t))(h:mY P (if t then x else y) Q s):mY P (.cond c x y) Q s:=by intro G a w d;have:=d.eval c;rw[hc]at this;generalize b:a.eval c=u at this;cases this;exact wp_cond b (h G a w d)
def HU(id:Nat)(Q:Exit->AS->Prop):Exit->AS->Prop
 | .exit id',s=>if id'=id then Q .normal s else Q (.exit id') s
 |e,s=>Q e s
def aB3:Exit->Prop
 | .goto _=>False
 |_=>True
end
def oV(ops:Array Oper)(s:AS)(o:Oper):Option Bool :=
 match o.guard with
 |none=>U IN
 |some (j,want)=>match(ops[j]?).bind (·.dst)with
  |some d=>if d<s.n then
    match s.get d with
    | .bF (.bool b)=>U (b==want)
    | .bF (.tuple _)=>U IS
    |_=>No else No
  |none=>No
def yH{ops:Array Oper}{s:AS}{o:Oper}{b:Bool}{G:cb}{a:Act}{w:World}(h:np G s a w)(ha:oV ops s o=U b):dD o (yielded ops a.tmps)=b:=by
 unfold oV at ha;unfold dD;split at ha
 next e=>cases ha;simp[e]
 rename_i j want e;simp only[e];split at ha
 next d i=>
  split at ha
  next f=>
   have c:=h.tmps d;have l7:a.tmps[d]?=U (a.tmps.getD d undef):=by simp[h.size,f]
   simp only[yielded,i,eK,l7];split at ha
   next k g=>
    cases ha;rw[g]at c;generalize a.tmps.getD d undef=u at c;cases c;cases k<;>cases want<;>rfl
   next g=>
    cases ha;rw[g]at c;generalize a.tmps.getD d undef=u at c;cases c;cases want<;>rfl
   cases ha
  cases ha
 cases ha
def nZ(P:Program)(ops:Array Oper)(n0:Nat)(Q:AS->Prop)(l:List Nat)(s:AS):Prop :=
 ∀G a w,np G s a w->(∀j∈l,j<ops.size/\G.pl (n0+j)=No)->n0+ops.size<=s.st.next ->
  wpOps P ops (λe b w'=>e=.normal/\∃s' G',sE n0 G s.st w G' s'.st w'/\np G' s' b w'/\Q s') l a w
section
variable {P:Program} {ops:Array Oper} {n0:Nat} {Q:AS->Prop} {s:AS}
def rl{Q Q':Exit->Act->World->Prop}(h:∀e a w,Q e a w->Q' e a w):∀(l:List Nat) (a:Act) (w:World),wpOps P ops Q l a w->wpOps P ops Q' l a w
 | [],a,w,b=>h _ _ _ b
 |i::rest,a,w,b=>by
  simp only[wpOps]at b⊢;split
  next d=>simp only[d]at b;exact rl h rest a w b
  rename_i o d;simp only[d]at b;split
  next hw=>
   simp only[hw,jj]at b;rcases b with b|⟨h1,a0,mr,h2⟩
   .left
    unfold gH at *;generalize(execOp a.eval o).run P w=r at *;cases r with
    |ok n w' =>
     cases n<;>simp only[eQ]at b⊢ <;>
      first
       |exact rl h rest _ _ b
       |exact Calls.mono b (λe f he=>by
         cases e with
         |returned v=>exact rl h rest _ _ he
         |panicked c=>exact h _ _ _ he
         |outgrown=>obtain⟨a0,mr,g⟩:=he;exact⟨a0,mr,h _ _ _ g⟩)
       |exact Rows.mono b (λ_ _ he=>rl h rest _ _ he)
    |halt x w'=>cases x<;>simp only[eQ]at b⊢<;>first|exact h _ _ _ b|exact b
   exact .inr ⟨h1,a0,mr,h _ _ _ h2⟩
  rename_i hw;simp only[hw]at b;exact rl h rest _ _ b
def nZ.nil(h:Q s):nZ P ops n0 Q [] s:=λG _ _ a _ _=>⟨rfl,s,G,.refl _ _ _ _,a,h⟩
def nZ.plain{T:dd}(ca:mc P T){i:Nat}{rest:List Nat}{o:Oper}{v:ag}{σ':bg}(k:ops[i]?=U o)(a7:i∉rest)(hw:oV ops s o=U IN)(m:oJ s.n o.dst=IN)
  (ha:j5 T s.eval s.st (n0+i) o.op=U (v,σ')) (p:σ'.next=s.st.next) (h:nZ P ops n0 Q rest ({ s with st:=σ' }.put o.dst v)):nZ P ops n0 Q (i::rest) s:=by
 intro G a w d hf N;have q:i<ops.size:=(aS.1 k).1;simp only[wpOps,k,yH d hw,jj];left;obtain⟨G',u,w',h1,h2,c,r,t,f⟩:=Pw (P:=P) ca d.rel d.eval (hf i (by simp)).2 (by omega) ha;have g:∀j∈rest,n0+j≠n0+i:=λj hj e=>a7 (by have x:j=i:=Nat.add_left_cancel e;rw[<-x];exact hj);have key:=h G' (a.put o.dst u) w' (d.put h1 t r m) (λj hj=>⟨(hf j (by simp[hj])).1,h2 _ (g j hj) (hf j (by simp[hj])).2⟩) (by simp;omega);have z:sE n0 G s.st w G' σ' w':=⟨h1,λB C D=>h2 B (by omega) D,by omega,f⟩;have b:=rl (P:=P) (ops:=ops) (Q':=λe l w'=>e=.normal/\∃s' G',sE n0 G s.st w G' s'.st w'/\np G' s' l w'/\Q s') (λe l w' ⟨E,s',H,I,J,K⟩ =>
  ⟨E,s',H,z.trans (by simpa using I) (aw _),J,K⟩) rest _ _ key
 unfold gH;rcases c with c|⟨c,M⟩
 .rw[c];exact b
 rw[c];subst M;exact b
end
def mY.region{P:Program}{Q:Exit->AS->Prop}{s:AS}{id:Nat}{ops:Array Oper}
  (h:nZ P ops s.st.next (λs'=>Q .normal s') (bo ops.size) { s with st:={ s.st with next:=s.st.next+ops.size } }):mY P (.region id ops IS) Q s:=by
 intro G a w b;refine wp_region ?_;have d:np G { s with st:={ s.st with next:=s.st.next+ops.size } } a w:=⟨b.defers,b.size,b.tmps,b.rel.next (aY _ _)⟩;refine rl ?_ _ _ _ (h G a w d (λj hj=>⟨by simpa using hj,b.rel.fresh _ (aY _ _)⟩) (aw _));rintro e i w' ⟨rfl,s',G',c,f,g⟩;refine⟨s',G',⟨c.le,c.keeps,bI (aY _ _) c.next,?_⟩,f,g⟩;exact(Fr.less (σ:=s.st) (σ':={ s.st with next:=s.st.next+ops.size }) (λ_ _ h=>h)).trans c.bb
def zJ:List ag->Nat->fb ag->fb ag
 | [],_,t=>t
 |v::vs,i,t=>zJ vs (i+1) (t.set i (U v))
def V5:∀(vs:List ag) (i:Nat) (t:fb ag) (k:Nat),(zJ vs i t).get k=if i<=k/\k<i+vs.length then vs[k-i]? else t.get k
 | [],i,t,k=>by simp[zJ];intro h1 h2;omega
 |v::vs,i,t,k=>by
  rw[zJ,V5 vs (i+1) _ k,fb.E0];simp only[aA];by_cases e:k=i
  .subst e
   rw[b8 (by omega),b9 rfl,b9 (by omega)];simp
  by_cases a:i+1<=k/\k<i+1+vs.length
  .rw[b9 a,b9 (by omega)]
   obtain⟨m,hm⟩:∃m,k-i=m+1:=⟨k-i-1,by omega⟩;rw[hm];simp;congr 1;omega
  rw[b8 a,b8 e,b8 (by omega)]
def AS.enter(n:Nat)(args:List ag)(σ:bg):AS:={ n:=n,mv:=zJ args 0 .leaf,st:=σ }
def AS.LU(n:Nat)(args:List ag)(σ:bg)(t:Nat):(AS.enter n args σ).get t=(args[t]?).getD (.bF undef):=by
 simp only[AS.get,AS.enter,V5,fb.sc,dq,pB,aN,iZ];split
 .rfl
 rw[bM (by omega)]
def np.enter{G:cb}{args:List ag}{vs:List Value}{σ:bg}{w:World}(ha:gl G args vs)(b:Rel G σ w)(n:Nat)(c:args.length<=n) :
  np G (AS.enter n args σ) { tmps:=vs.toArray++bz (n-vs.toArray.size) undef,defers:=[] } w:=by
 refine⟨rfl,by simp[AS.enter,ha.1];omega,λt=>?_,b⟩;rw[AS.LU];by_cases a:t<args.length
 .have h1:t<vs.length:=by rw[ha.1];exact a
  have:=ha.2 t a h1;simpa[a,h1,iI]using this
 have h1:¬t<vs.length:=by rw[ha.1];exact a
 have e:(vs.toArray++bz (n-vs.toArray.size) undef).getD t undef=undef:=by
  simp only[Array.getD_eq_getD_getElem?,iI,List.size_toArray,b8 h1];by_cases h2:t-vs.length<n-vs.length
  .simp[h2]
  simp[h2]
 rw[e,bM (by omega)];exact .bF _
def bj9{P:Program}{T:dd}(ca:mc P T){G:cb}{σ:bg}{w:World}(h:Rel G σ w){t:TypeId}{x v:ag}{u:Value}(q:lB G x u)(ha:o8 T σ t x=U v) :
  ∃y,(do loadVar t (<-asAddr u):Sem Value).run P w=.ok y w/\lB G v y:=by
 cases q with
 |mp id' i j p hp=>
  simp only[o8]at ha;cases g:σ.bT id' with
  |none=>simp[g]at ha
  |some o=>
   cases o with
   |row elem size es=>
    simp only[g]at ha;cases he:es[i]? with
    |none=>simp[he]at ha
    |some cs=>
     simp only[he]at ha;cases c:T t with
     |none=>simp[c]at ha
     |some ti=>
      simp only[c]at ha;obtain⟨a7,d⟩:=ao.1 he;have hv:p.mF=IS:=by
       rcases h.uv g hp with⟨_,e,s,h2⟩|⟨h2,_⟩
       .cases h2;simp at a7
       exact h2
      obtain⟨_,_,cells,r,hs,z,hle,l⟩:=h.real g hp hv;obtain⟨hlen,f⟩:=l i a7;rw[d]at hlen;have hbound:∀k,k<cs.length->i*size+k<cells.size:=λk hk=>by rw[z];have:(i+1)*size<=p.cap*size:=bm _ (by omega);rw[b_]at this;omega
      have:=En ca c (P:=P) (G:=G) (w:=w) p.block (i*p.size) cs (λk=>cells.getD (i*size+k) default) j
       (λk hk=>by
        rw[cell_of_row w _ _ cells elem _ r,hs];have:=hbound k hk;simp[this]) (λk hk=>by
        have n:=f k (by rw[d];exact hk) (hbound k hk);have:=hbound k hk;simp only[d]at n;simpa[this]using n) ha
      obtain⟨u,hu,m⟩:=this;exact⟨u,by simp only[asAddr,an,ar,ah,hu],m⟩
   |_=>simp[g]at ha
 |h8 cs a val hs himm hrep=>
  simp only[o8]at ha;cases c:T t with
  |none=>simp[c]at ha
  |some ti=>simp only[c]at ha;obtain⟨b,o,s⟩:=a;simp at hs;subst hs;obtain⟨u,hu,m⟩:=En ca c (P:=P) (G:=G) (w:=w) b o cs val 0 (λk hk=>h.cell (himm k hk)) hrep ha;rw[dW]at hu;exact⟨u,by simp only[asAddr,an,ar,ah,hu],m⟩
 |_=>simp[o8]at ha
def zt(T:dd)(s:AS):ResultVar->Option ag
 | .tmp t=>U (s.get t)
 | .cell a t=>o8 T s.st t (s.get a)
def uj(T:dd)(s:AS):List ResultVar->Option (List ag)
 | []=>U []
 |r::rs=>match zt T s r,uj T s rs with
  |some v,U l=>U (v::l)
  |_,_=>No
def pQ(T:dd)(fn:Func)(s:AS):Option ag :=
 match uj T s fn.results.toList with
 |some [v]=>U v
 |some l=>U (.fe l)
 |none=>No
def Pl(tmps:Array Value):ResultVar->Sem Value
 | .tmp t=>pure (tmps.getD t undef)
 | .cell a t=>do loadVar t (<-asAddr (tmps.getD a undef))
def bf4(fn:Func)(tmps:Array Value):results fn tmps=(do
  let vs<-fn.results.mapM (Pl tmps)
  pure (if h:vs.size=1 then vs[0]else .tuple vs)):=rfl
def V9{P:Program}{T:dd}(ca:mc P T){G:cb}{s:AS}{a:Act}{w:World}(h:np G s a w):∀ {rs:List ResultVar} {l:List ag},uj T s rs=U l ->
  ∃vs:List Value,(rs.mapM (Pl a.tmps):Sem (List Value)).run P w=.ok vs w/\gl G l vs
 | [],l,ha=>by simp[uj]at ha;subst ha;exact⟨[],by simp,.nil G⟩
 |r::rs,l,ha=>by
  unfold uj at ha;split at ha
  next v f h1 h2=>
   cases ha;obtain⟨vs,b,d⟩:=V9 ca h h2;have:∃y,(Pl a.tmps r).run P w=.ok y w/\lB G v y:=by
    cases r with
    |tmp t=>simp only[zt,ai]at h1;subst h1;exact⟨_,rfl,h.tmps t⟩
    |cell x t=>exact bj9 ca h.rel (h.tmps x) h1
   obtain⟨y,e,c⟩:=this;refine⟨y::vs,?_,.cons c d⟩;simp only[ko,an,e,ah,b,ar]
  cases ha
def LZ{P:Program}{T:dd}(ca:mc P T){G:cb}{s:AS}{a:Act}{w:World}(h:np G s a w){fn:Func}{v:ag}(ha:pQ T fn s=U v) :
  ∃y,(results fn a.tmps).run P w=.ok y w/\lB G v y:=by
 unfold pQ at ha;have key:∀l,uj T s fn.results.toList=U l->∃vs:List Value,(results fn a.tmps).run P w=.ok (if h:vs.length=1 then vs[0]else .tuple vs.toArray) w/\gl G l vs:=λl hl=>by obtain⟨vs,b,d⟩:=V9 (P:=P) ca h hl;refine⟨vs,?_,d⟩;rw[bf4,gW];simp only[an,lg,b,ah,ar];congr 1
 split at ha
 next i hl=>
  cases ha;obtain⟨vs,h1,h2⟩:=key _ hl;obtain⟨y,ys,rfl,f,g⟩:=h2.cons_inv;rw[g.s_]at h1;exact⟨y,by simpa using h1,f⟩
 next l c hl=>
  cases ha;obtain⟨vs,h1,h2⟩:=key _ hl;have:vs.length≠1:=λe=>by rw[h2.1]at e;obtain⟨x,rfl⟩:=List.length_eq_one_iff.1 e;exact c x rfl
  rw[dif_neg this]at h1;exact⟨_,h1,.fe _ _ h2.1 h2.2⟩
 cases ha
def uh.IA{P:Program}{T:dd}(ca:mc P T){f:FuncId}{fn:Func}{c:Code}{args:List ag}{σ:bg}{R:ag->bg->Prop}(hf:P.funcs[f]?=U fn)(j:fn.body=U c)(k:args.length<=fn.ntmps)
  (h:mY P c (λe s'=>(e=.normal\/e=.ret)/\∃v,pQ T fn s'=U v/\R v s'.st) (AS.enter fn.ntmps args σ)):uh P f args σ R:=by
 intro G vs w ha l;refine calls_of_wp hf j (wp_mono (h G _ w (np.enter ha l fn.ntmps k)) ?_);rintro e m w' ⟨s',G',d,a,hex,v,hv,g⟩;obtain⟨y,i,b⟩:=LZ (P:=P) ca a hv;rcases hex with rfl|rfl
 .exact⟨a.defers,y,i,y,v,s'.st,G',rfl,d,b,a.rel,g⟩
 exact⟨a.defers,y,i,y,v,s'.st,G',rfl,d,b,a.rel,g⟩
section
variable {P:Program} {ops:Array Oper} {n0:Nat} {Q:AS->Prop} {s:AS}
end
inductive rP where
 |nr
 |oz (id:Nat)
 |ret
def rP.rN:rP->Exit
 | .nr=>.normal
 | .oz id=>.exit id
 | .ret=>.ret
section
variable {P:Program} {T:dd}
end
def pH(σ σ':bg):Prop:=σ'.low<=σ.low/\∀i,i<σ'.low->σ'.bT i=σ.bT i
def pH.refl(σ:bg):pH σ σ:=⟨aw _,λ_ _=>rfl⟩
def pH.trans{a b c:bg}(h:pH a b)(k:pH b c):pH a c:=⟨bI k.1 h.1,λi a7=>(k.2 i a7).trans (h.2 i (ed a7 k.1))⟩
def pH.set(σ:bg)(id:Nat)(o:b7):pH σ (σ.set id o):=by
 refine⟨kq _ _,λi a7=>?_⟩;have:i<id:=ed a7 (kb _ _)
 grind[bg.l1]
def pH.del(σ:bg)(id:Nat):pH σ (σ.del id):=by
 refine⟨kq _ _,λi a7=>?_⟩;have:i<id:=ed a7 (kb _ _)
 grind[bg.tb]
def ay7(σ:bg)(s:ag):(om σ s).next=σ.next/\pH σ (om σ s):=by
 unfold om;split
 .split
  .split
   .exact⟨rfl,.set _ _ _⟩
   exact⟨rfl,.refl _⟩
  exact⟨rfl,.refl _⟩
 exact⟨rfl,.refl _⟩
theorem aP4{T:dd}{σ σ':bg}{id:Nat}{sT xT:TypeId}{s x v:ag}(h:qt T σ id sT xT s x=U (v,σ')):σ'.next=σ.next/\pH σ σ':=by
 unfold qt at h;split at h
 .unfold wS at h
  split at h
  .split at h
   .cases h;exact⟨rfl,.set _ _ _⟩
   cases h
  cases h
 obtain⟨b,a⟩:=ay7 σ s;unfold rR at h;split at h
 .split at h
  .split at h
   .split at h
    .simp only[ai,cq]at h
     obtain⟨_,rfl⟩:=h;refine⟨?_,?_⟩
     .split<;>exact b
     split
     .exact a.trans (pH.trans (.del _ _) (.set _ _ _))
     exact a.trans (.set _ _ _)
    cases h
   cases h
  cases h
 cases h
def oS:Op->Bool
 | .store .. | .mapUpdate .. | .insert .. | .mapEntry .. | .entryStore ..=>IN
 | .call { callee:=.builtin .append,.. }=>IN
 | .call { callee:=.builtin .clear,.. }=>IN
 | .call { callee:=.builtin .copy,.. }=>IN
 |_=>IS
theorem bo4{T:dd}{σ σ':bg}{t:TypeId}{x:ag}(h:td T σ t x=U σ'):σ'.next=σ.next/\pH σ σ':=by
 unfold td at h;split at h
 .split at h
  .split at h
   .cases h;exact⟨rfl,.set _ _ _⟩
   cases h
  cases h
 cases h
theorem bi6{T:dd}{σ σ':bg}{t:TypeId}{x y:ag}(h:sB T σ t x y=U σ'):σ'.next=σ.next/\pH σ σ':=by
 unfold sB at h;split at h
 .split at h
  .split at h
   .cases h;exact⟨rfl,.set _ _ _⟩
   cases h
  cases h
 cases h
def bt1{T:dd}{σ σ':bg}{id:Nat}{t:TypeId}{n c v:ag}(h:tg T σ id t n c=U (v,σ')):∃o,σ'=σ.set id o:=by
 unfold tg at h;split at h
 .split at h
  .split at h
   .cases h;exact⟨_,rfl⟩
   cases h
  cases h
 cases h
def Ic{T:dd}{g:Operand->ag}{σ σ':bg}{id:Nat}{op:Op}{v:ag}(h:j5 T g σ id op=U (v,σ')) :
  σ'.next=σ.next/\pH σ σ'/\(oS op=IS->σ'=σ\/∃o,σ'=σ.set id o):=by
 have same:σ'=σ->σ'.next=σ.next/\pH σ σ'/\(oS op=IS->σ'=σ\/∃o,σ'=σ.set id o):=λe=>by subst e;exact⟨rfl,.refl _,λ_=>.inl rfl⟩
 have new:(∃o,σ'=σ.set id o)->σ'.next=σ.next/\pH σ σ'/\(oS op=IS->σ'=σ\/∃o,σ'=σ.set id o):=λ⟨o,e⟩=>by subst e;exact⟨rfl,.set _ _ _,λ_=>.inr ⟨o,rfl⟩⟩
 cases op with
 |move x=>cases h;exact same rfl
 |assign x=>cases h;exact same rfl
 |pick c a b=>grind[j5]
 |build t j=>grind[j5]
 |load t x=>grind[j5]
 |binOp b t x y yt=>grind[j5]
 |unOp b t x=>grind[j5]
 |convert s d x=>grind[j5]
 |slice t x b5 a7 pX=>grind[j5]
 |fieldAddr t x f=>grind[j5]
 |field t x f=>grind[j5]
 |indexAddr t x i=>grind[j5]
 |index t x i=>grind[j5]
 |lookup t x i ok=>grind[j5]
 |extract x i=>grind[j5]
 |alloc t=>grind[j5,zc]
 |box t x=>grind[j5,yi]
 |buildSlice t len j=>
  simp only[j5,vh]at h
  grind
 |nilCheck x=>grind[j5]
 |makeFunc f a c=>cases h;exact same rfl
 |makeSlice t n c=>simp only[j5]at h;exact new (bt1 h)
 |makeMap t r=>
  cases r with
  |some r=>simp[j5]at h
  |none=>cases h;exact new ⟨_,rfl⟩
 |store t a x=>
  simp only[j5]at h;split at h
  next σ1 hs=>
   cases h;refine⟨?_,?_,λe=>by simp[oS]at e⟩
   all_goals
    unfold rA at hs;split at hs
    .split at hs
     .split at hs
      .split at hs
       .cases hs;first|rfl|exact .set _ _ _
       cases hs
      cases hs
     cases hs
    cases hs
  cases h
 |mapEntry t m k=>
  simp only[j5]at h;refine⟨?_,?_,λe=>by simp[oS]at e⟩
  all_goals
   unfold vm at h;split at h
   .split at h
    .split at h
     .split at h
      .split at h
       .cases h;first|rfl|exact .set _ _ _
       split at h
       .split at h
        .grind
        cases h;first|rfl|exact .set _ _ _
       cases h
      cases h
     cases h
    cases h
   cases h
 |entryStore t m s x=>
  simp only[j5]at h;split at h
  next σ1 hs=>
   cases h;refine⟨?_,?_,λe=>by simp[oS]at e⟩
   all_goals
    unfold vi at hs;split at hs
    .split at hs
     .split at hs
      .cases hs;first|rfl|exact .set _ _ _
      cases hs
     cases hs
    cases hs
  cases h
 |mapUpdate t m k x=>
  simp only[j5]at h;split at h
  next σ1 hs=>
   cases h;refine⟨?_,?_,λe=>by simp[oS]at e⟩
   all_goals
    unfold q3 at hs;split at hs
    .split at hs
     .split at hs
      .split at hs
       .cases hs;first|rfl|exact .set _ _ _
       split at hs
       .cases hs;first|rfl|exact .set _ _ _
       cases hs
      cases hs
     cases hs
    cases hs
  cases h
 |insert t m k x=>
  simp only[j5]at h;split at h
  next σ1 hs=>
   cases h;refine⟨?_,?_,λe=>by simp[oS]at e⟩
   all_goals
    unfold q3 at hs;split at hs
    .split at hs
     .split at hs
      .split at hs
       .cases hs;first|rfl|exact .set _ _ _
       split at hs
       .cases hs;first|rfl|exact .set _ _ _
       cases hs
      cases hs
     cases hs
    cases hs
  cases h
 |call c=>
  obtain⟨callee,args,ts⟩:=c;cases callee with
  |value f=>simp[j5]at h
  |invoke r m=>simp[j5]at h
  |builtin b=>
   simp only[j5]at h;unfold pC at h
   grind[aP4,bo4,bi6,oS]
 |_=>simp[j5]at h
section
variable {T:dd} {F:FuncId->Option Func}
end
def fold{L V:Type}(p:Nat->Bool):List (L->Option V)->Nat->(L->V)->(L->V)
 | [],_,f=>f
 |u::us,i,f=>fold p us (i+1) (λl=>cond (p i) ((u l).getD (f l)) (f l))
def wq{L V:Type}{p q:Nat->Bool}(l:L):∀(us:List (L->Option V)) (i:Nat) (f g:L->V),f l=g l->(∀(j:Nat) u,us[j]?=U u->p (i+j)≠q (i+j)->u l=No) ->
  fold p us i f l=fold q us i g l
 | [],_,f,g,h,_=>h
 |u::us,i,f,g,h,hu=>by
  simp only[fold];refine wq l us (i+1) _ _ ?_ (λj a h1 h2=>hu (j+1) a (by simpa using h1) (by rw[show i+(j+1)=i+1+j from by omega];exact h2));by_cases e:p i=q i
  .rw[e,h]
  have:=hu 0 u rfl (by simpa using e);rw[this,h];cases p i<;>cases q i<;>rfl
def fold_congr{L V:Type}{p q:Nat->Bool}:∀(us:List (L->Option V)) (i:Nat) (f:L->V),(∀j,i<=j->p j=q j)->fold p us i f=fold q us i f
 | [],_,_,_=>rfl
 |u::us,i,f,h=>by simp only[fold,h i (aw _)];exact fold_congr us (i+1) _ (λj hj=>h j (by omega))
def Aw{L V:Type}{p:Nat->Bool}(l:L):∀(us:List (L->Option V)) (i:Nat) (f:L->V) (v:V),(∀(j:Nat) u,us[j]?=U u->p (i+j)=IN->u l=No)->f l=v->fold p us i f l=v
 | [],_,f,v,_,h=>h
 |u::us,i,f,v,hu,h=>by
  simp only[fold];refine Aw l us (i+1) _ v (λj a h1 h2=>hu (j+1) a (by simpa using h1) (by rw[show i+(j+1)=i+1+j from by omega];exact h2)) ?_;cases e:p i with
  |true=>rw[hu 0 u rfl (by simpa using e),h];rfl
  |false=>exact h
def HM{L V:Type}{p:Nat->Bool}(l:L){u0:L->Option V}:∀(us:List (L->Option V)) (i k:Nat) (f:L->V),us[k]?=U u0->p (i+k)=IS ->
  (∀(j:Nat) u,us[j]?=U u->k<j->p (i+j)=IN->u0 l≠No->u l=No) ->
  fold (λj=>j==i+k||p j) us i f l=(u0 l).getD (fold p us i f l)
 | [],i,k,f,h,_,_=>by simp at h
 |u::us,i,0,f,h,hp,hu=>by
  simp only[cX,ai]at h;subst h;simp only[dW]at hp;have c:∀j,i+1<=j->(j==i+0||p j)=p j:=λj hj=>by
   have:(j==i+0)=IS:=by simp;omega
   rw[this];rfl
  have a7:(i==i+0||p i)=IN:=by simp
  simp only[fold];rw[fold_congr us (i+1) _ c,a7,hp];simp only[dn,ct];cases a:u l with
  |none=>simp only[fG];exact wq l us (i+1) _ _ (by simp[a]) (λj b _ h2=>lH rfl h2)
  |some v=>simp only[cg];exact Aw l us (i+1) _ v (λj b h1 h2=>hu (j+1) b (by simpa using h1) (by omega) (by rw[show i+(j+1)=i+1+j from by omega];exact h2) (by simp[a])) (by simp[a])
 |u::us,i,k+1,f,h,hp,hu=>by
  have e:(i==i+(k+1)||p i)=p i:=by
   have:(i==i+(k+1))=IS:=by simp
   rw[this];rfl
  simp only[fold];rw[e];have:=HM (p:=p) l us (i+1) k (λl=>cond (p i) ((u l).getD (f l)) (f l)) (by simpa using h) (by rw[show i+1+k=i+(k+1)from by omega];exact hp)
   (λj b h1 h2 d g=>hu (j+1) b (by simpa using h1) (by omega) (by rw[show i+(j+1)=i+1+j from by omega];exact d) g)
  rw[show i+1+k=i+(k+1)from by omega]at this;exact this
def R3(vT:Nat->Option b7):∀lC,(∀i,lC<=i->vT i=No)->∃σ:bg,σ.next=lC/\∀i,σ.bT i=vT i:=by
 have key:∀n (m:Nat),∃σ:bg,σ.next=m/\∀i,σ.bT i=if i<n then vT i else No:=by
  intro n m
  induction n with
  |zero=>exact⟨{ next:=m,mv:=.leaf },rfl,λi=>by simp[bg.bT,fb.sc]⟩
  |succ n c=>
   obtain⟨σ,h1,h2⟩:=c;cases b:vT n with
   |some o=>
    refine⟨σ.set n o,h1,λi=>?_⟩;rw[bg.l1,h2];by_cases e:i=n
    .subst e;simp[b]
    rw[b8 e];by_cases a:i<n
    .rw[b9 a,b9 (by omega)]
    rw[b8 a,b8 (by omega)]
   |none=>
    refine⟨σ,h1,λi=>?_⟩;rw[h2];by_cases e:i=n
    .subst e;simp[b]
    by_cases a:i<n
    .rw[b9 a,b9 (by omega)]
    rw[b8 a,b8 (by omega)]
 intro lC h;obtain⟨σ,h1,h2⟩:=key lC lC;refine⟨σ,h1,λi=>?_⟩;rw[h2];split
 .rfl
 rw[h i (by omega)]
def Rel.Iy{G:cb}{σ:bg}{w:World}(h:Rel G σ w){i:Nat}{o:b7}(a:σ.bT i=U o):i<σ.next:=by obtain⟨p,hp,_⟩:=h.bT i o a;exact h.R9 hp
def Rel.frame{G G':cb}{σ σv σv' σ':bg}{w w':World}(c:Rel G σ w)(h:∀id o,σv.bT id=U o->σ.bT id=U o)(d:Rel G' σv' w')(f:Fr G σv w G' σv' w')(hle:G.le G')
  (l:∀id,σ'.next<=id->G'.pl id=No) (m:∀id o,σ'.bT id=U o->σv'.bT id=U o\/(σ.bT id=U o/\σv.bT id=No)):Rel G' σ' w':=by
 have hs:=f.size;have e:∀id o p,σ.bT id=U o->σv.bT id=No->G.pl id=U p->p.mF=IS->∀id0 o0 p0,σv.bT id0=U o0->G.pl id0=U p0->p0.mF=IS->p0.block≠p.block :=λid o p h1 h2 r s id0 o0 p0 g1 g2 g3 g4=>by have:=c.sep id0 id o0 o p0 p (h _ _ g1) h1 g2 r g3 s g4;rw[this,h2]at g1;cases g1
 refine⟨d.os,d.tape,d.output,d.size,d.lM,l,λid o E=>?_,λi j oi oj pi pj h1 h2 r s v1 v2 u=>?_,d.qV⟩
 .rcases m id o E with h1|⟨h1,h2⟩
  .exact d.bT id o h1
  obtain⟨p,hp,hl⟩:=c.bT id o h1;refine⟨p,hle.pl _ _ hp,?_⟩;rcases hl with hl|⟨hv,v,z,B⟩
  .exact .inl hl
  refine .inr ⟨hv,?_,by rw[hle.mr];exact z,?_⟩
  .cases H:G'.lM p.block with
   |none=>rfl
   |some x=>
    rcases f.lM _ _ H with g|g|⟨id0,o0,p0,g1,g2,g3,g4⟩
    .rw[v]at g;cases g
    .have:=c.ta h1 hp hv;omega
    exact lH g4 (e id o p h1 h2 hp hv id0 o0 p0 g1 g2 g3)
  rw[f.same p.block (c.ta h1 hp hv) (λid0 o0 p0 g1 g2 g3=>e id o p h1 h2 hp hv id0 o0 p0 g1 g2 g3)];exact B.mono hle
 have n:∀k x,σ.bT k=U x->∀q,G'.pl k=U q->G.pl k=U q:=λk x I q J=>by obtain⟨Q,t,_⟩:=c.bT k x I;have:=hle.pl _ _ t;rw[J]at this;cases this;exact t
 have kj:∀i j oi oj pi pj,σv'.bT i=U oi->σ.bT j=U oj->σv.bT j=No->G'.pl i=U pi->G'.pl j=U pj->pi.mF=IS->pj.mF=IS->pi.block≠pj.block:=by intro i j oi oj pi pj K a2 a3 a4 a5 M C R;have D:=n j oj a2 pj a5;have N:=c.ta a2 D C;obtain⟨id0,o0,p0,g1,g2,g3,g4⟩:=f.live i oi pi K a4 M (by omega);exact e j oj pj a2 a3 D C id0 o0 p0 g1 g2 g3 (by omega)
 rcases m i oi h1 with a|⟨a,O⟩<;>rcases m j oj h2 with b|⟨b,P⟩
 .exact d.sep i j oi oj pi pj a b r s v1 v2 u
 .exact lH u (kj i j oi oj pi pj a b P r s v1 v2)
 .exact lH u.symm (kj j i oj oi pj pi b a O s r v2 v1)
 exact c.sep i j oi oj pi pj a b (n i oi a pi r) (n j oj b pj s) v1 v2 u
def Fr.frame{G G':cb}{σ σv σv' σ':bg}{w w':World}(e:Rel G σ w)(c:∀id o,σv.bT id=U o->σ.bT id=U o)(d:Fr G σv w G' σv' w')(hle:G.le G')
  (h:∀id o,σ'.bT id=U o->σv'.bT id=U o\/(σ.bT id=U o/\σv.bT id=No)):Fr G σ w G' σ' w':=by
 refine⟨d.size,λb i k=>d.same b i (λid o p h1 h2 f=>k id o p (c _ _ h1) h2 f),λid o p h1 h2 f l=>?_,λb o i=>?_,d.drawn⟩
 .rcases h id o h1 with a|⟨a,_⟩
  .obtain⟨id0,o0,p0,g1,g2,g3,g4⟩:=d.live id o p a h2 f l
   exact⟨id0,o0,p0,c _ _ g1,g2,g3,g4⟩
  obtain⟨q,j,_⟩:=e.bT id o a;have:=hle.pl _ _ j;rw[h2]at this;cases this;exact⟨id,o,p,a,j,f,rfl⟩
 rcases d.lM b o i with g|g|⟨id0,o0,p0,g1,g2,g3,g4⟩
 .exact .inl g
 .exact .inr (.inl g)
 exact .inr (.inr ⟨id0,o0,p0,c _ _ g1,g2,g3,g4⟩)
def oD(l8:Nat->ag):Operand->ag
 | .tmp t=>l8 t
 | .const v=>.ofValue v
 | .global g=>.bF (.pointer (U ⟨g,0,No⟩))
 | .func f=>.fn (.func f) [] []
def AS.eval_eq(s:AS)(x:Operand):s.eval x=oD s.get x:=by cases x<;>rfl
structure yg(G:cb)(n:Nat)(l8:Nat->ag)(σ:bg)(a:Act)(w:World):Prop where
 defers:a.defers=[]
 size:a.tmps.size=n
 tmps:∀t,lB G (l8 t) (a.tmps.getD t undef)
 rel:Rel G σ w
def yg.eval{G:cb}{n:Nat}{l8:Nat->ag}{σ:bg}{a:Act}{w:World}(h:yg G n l8 σ a w)(x:Operand):lB G (oD l8 x) (a.eval x):=by
 cases x with
 |tmp t=>exact h.tmps t
 |const v=>exact lB.ofValue G v
 |global g=>exact .bF _
 |func f=>exact .fn _ [] [] [] [] rfl rfl (λi h=>by simp at h) (λi h=>by simp at h)
def tc(d:Option Tmp)(v:ag):Nat->Option ag:=λt=>if d=U t then U v else No
def yg.put{G G':cb}{n:Nat}{l8:Nat->ag}{σ σ':bg}{a:Act}{w w':World}(h:yg G n l8 σ a w)(b:G.le G')(c:Rel G' σ' w'){v:ag}{u:Value}(hv:lB G' v u){d:Option Tmp}(f:oJ n d=IN) :
  yg G' n (λt=>(tc d v t).getD (l8 t)) σ' (a.put d u) w':=by
 cases d with
 |none=>exact⟨h.defers,h.size,λt=>(h.tmps t).mono b,c⟩
 |some d=>
  refine⟨h.defers,by simp[kp,h.size],λt=>?_,c⟩;simp only[oJ,gb]at f;simp only[kp,tc];by_cases e:d=t
  .subst e
   simp[h.size,f];exact hv
  have:(a.tmps.setIfInBounds d u).getD t undef=a.tmps.getD t undef:=by simp[cw,e]
  rw[this];simp[e];simpa using(h.tmps t).mono b
def xD(ops:Array Oper)(n:Nat)(l8:Nat->ag)(o:Oper):Option Bool :=
 match o.guard with
 |none=>U IN
 |some (j,want)=>match(ops[j]?).bind (·.dst)with
  |some d=>if d<n then
    match l8 d with
    | .bF (.bool b)=>U (b==want)
    | .bF (.tuple _)=>U IS
    |_=>No else No
  |none=>No
def GK{ops:Array Oper}{n:Nat}{l8 a:Nat->ag}{o:Oper}(h:∀t∈o.looksAt ops,l8 t=a t):xD ops n l8 o=xD ops n a o:=by
 unfold xD;cases b:o.guard with
 |none=>rfl
 |some q=>
  obtain⟨j,want⟩:=q;simp only[];cases c:(ops[j]?).bind (·.dst)with
  |none=>rfl
  |some d=>have:=h d (by unfold kJ;rw[b];simp[c]);simp only[this]
def Hb{ops:Array Oper}{n:Nat}{l8:Nat->ag}{o:Oper}{b:Bool}{G:cb}{σ:bg}{a:Act}{w:World}(h:yg G n l8 σ a w)(ha:xD ops n l8 o=U b):dD o (yielded ops a.tmps)=b:=by
 unfold xD at ha;unfold dD;split at ha
 next e=>cases ha;simp[e]
 rename_i j want e;simp only[e];split at ha
 next d i=>
  split at ha
  next f=>
   have c:=h.tmps d;have l7:a.tmps[d]?=U (a.tmps.getD d undef):=by simp[h.size,f]
   simp only[yielded,i,eK,l7];split at ha
   next k g=>
    cases ha;rw[g]at c;generalize a.tmps.getD d undef=u at c;cases c;cases k<;>cases want<;>rfl
   next g=>
    cases ha;rw[g]at c;generalize a.tmps.getD d undef=u at c;cases c;cases want<;>rfl
   cases ha
  cases ha
 cases ha
def L8{ops:Array Oper}{l8 a:Nat->ag}{o:Oper}(h:∀t∈o.looksAt ops,l8 t=a t):∀x∈o.op.operands,oD l8 x=oD a x:=by
 intro x b;cases x with
 |tmp t=>exact h t (by unfold kJ;exact List.mem_append_left _ (dP.2 ⟨.tmp t,by simpa using b,rfl⟩))
 |_=>rfl
def Es{b a:Operand->ag}{l:Array Operand}(h:∀x∈l,b x=a x):l.toList.map b=l.toList.map a:=bp λx c=>h x (by simpa using c)
def bj6{T:dd}{v g:Operand->ag}{σ:bg}{id:Nat}{op:Op}(h:∀x∈op.operands,v x=g x):j5 T v σ id op=j5 T g σ id op:=by
 have j:∀u:Array (Nat×Operand),(∀x∈(u.toList.map (·.2)),v x=g x)->(u.toList.map λ(p:Nat×Operand)=>(p.1,v p.2))=(u.toList.map λ(p:Nat×Operand)=>(p.1,g p.2)):=λu hp=>bp λp hm=>by grind
 cases op with
 |move x=>simp only[j5];rw[h x (by simp[aL])]
 |assign x=>simp only[j5];rw[h x (by simp[aL])]
 |pick c a b=>simp only[j5];rw[h c (by simp[aL]),h a (by simp[aL]),h b (by simp[aL])]
 |alloc t=>rfl
 |box t x=>simp only[j5];rw[h x (by simp[aL])]
 |build t u=>simp only[j5];rw[j u (λx q=>h x (by simpa[aL]using q))]
 |buildSlice t len u=>simp only[j5];rw[j u (λx q=>h x (by simpa[aL]using q))]
 |load t x=>simp only[j5];rw[h x (by simp[aL])]
 |store t a x=>simp only[j5];rw[h a (by simp[aL]),h x (by simp[aL])]
 |nilCheck x=>simp only[j5];rw[h x (by simp[aL])]
 |binOp b t x y yt=>simp only[j5];rw[h x (by simp[aL]),h y (by simp[aL])]
 |unOp b t x=>simp only[j5];rw[h x (by simp[aL])]
 |convert s d x=>simp only[j5];rw[h x (by simp[aL])]
 |makeFunc f a c=>simp only[j5];rw[Es (l:=a) (λx q=>h x (by simp[aL,q])),Es (l:=c) (λx q=>h x (by simp[aL,q]))]
 |makeMap t r=>cases r<;>rfl
 |makeSlice t n c=>simp only[j5];rw[h n (by simp[aL]),h c (by simp[aL])]
 |slice t x b5 a7 pX=>
  simp only[j5];rw[h x (by simp[aL])];have e:∀o:Option Operand,(∀y,o=U y->v y=g y)->o.map v=o.map g:=λo z=>by cases o with
   |none=>rfl
   |some y=>simp[z y rfl]
  rw[e b5 (λy w=>h y (by simp[aL,w])),e a7 (λy w=>h y (by simp[aL,w])),e pX (λy w=>h y (by simp[aL,w]))]
 |fieldAddr t x f=>simp only[j5];rw[h x (by simp[aL])]
 |field t x f=>simp only[j5];rw[h x (by simp[aL])]
 |indexAddr t x i=>simp only[j5];rw[h x (by simp[aL]),h i (by simp[aL])]
 |index t x i=>simp only[j5];rw[h x (by simp[aL]),h i (by simp[aL])]
 |lookup t x i ok=>simp only[j5];rw[h x (by simp[aL]),h i (by simp[aL])]
 |mapUpdate t m k x=>simp only[j5];rw[h m (by simp[aL]),h k (by simp[aL]),h x (by simp[aL])]
 |insert t m k x=>simp only[j5];rw[h m (by simp[aL]),h k (by simp[aL]),h x (by simp[aL])]
 |mapEntry t m k=>simp only[j5];rw[h m (by simp[aL]),h k (by simp[aL])]
 |entryStore t m s x=>simp only[j5];rw[h m (by simp[aL]),h s (by simp[aL]),h x (by simp[aL])]
 |extract x i=>simp only[j5];rw[h x (by simp[aL])]
 |call c=>
  obtain⟨callee,args,ts⟩:=c;cases callee with
  |builtin b=>simp only[j5];rw[Es (l:=args) (λx q=>h x (by simp[aL,fK,q]))]
  |value f=>rfl
  |invoke r m=>rfl
 |_=>rfl
def ag.s5:ag->List Nat
 | .ms id _ _ _=>[id]
 | .mp id _ _=>[id]
 | .lX id=>[id]
 | .ea id _ _=>[id]
 | .oN id _ _=>[id]
 | .xs id _ _ _=>[id]
 |_=>[]
def nx(b:Operand->ag):Op->List Nat
 | .load _ x=>(b x).s5
 | .store _ a _=>(b a).s5
 | .lookup _ x _ _=>(b x).s5
 | .mapUpdate _ m _ _=>(b m).s5
 | .insert _ m _ _=>(b m).s5
 | .mapEntry _ m _=>(b m).s5
 | .entryStore _ m _ _=>(b m).s5
 | .call { callee:=.builtin _,args:=args,.. }=>(args.toList.map λx=>(b x).s5).flatten
 |_=>[]
def y3(σ:bg):List Nat->bg->bg
 | [],t=>t
 |i::is,t=>y3 σ is (match σ.bT i with|some o=>t.set i o|none=>t)
def small(σ:bg)(ids:List Nat):bg:=y3 σ ids { next:=σ.next,mv:=.leaf }
theorem R5(σ:bg):∀(is:List Nat) (t:bg) (k:Nat),(∀o,t.bT k=U o->σ.bT k=U o)->(y3 σ is t).bT k=if k∈is then σ.bT k else t.bT k
 | [],t,k,_=>by simp[y3]
 |i::is,t,k,h=>by
  simp only[y3];have h':∀o,(match σ.bT i with|some o=>t.set i o|none=>t).bT k=U o->σ.bT k=U o:=λo a=>by
   cases a7:σ.bT i with
   |none=>rw[a7]at a;exact h o a
   |some x=>
    rw[a7]at a;simp only[bg.l1]at a;split at a
    next e=>subst e;rw[a7];exact a
    exact h o a
  rw[R5 σ is _ k h'];by_cases e:k∈is
  .simp[e]
  rw[b8 e];by_cases b:k=i
  .subst b
   rw[b9 (by simp)];cases a7:σ.bT k with
   |none=>
    simp only;cases c:t.bT k with
    |none=>rfl
    |some o=>have:=h o c;rw[a7]at this;cases this
   |some x=>simp[bg.l1]
  rw[b8 (by simp[e,b])];cases a7:σ.bT i with
  |none=>rfl
  |some x=>simp[bg.l1,b]
theorem Ce(σ:bg)(ids:List Nat)(k:Nat):(small σ ids).bT k=if k∈ids then σ.bT k else No:=by grind[small,R5,bg.bT,fb.sc]
theorem av8{T:dd}{σ σ':bg}{m:Nat}{t:TypeId}{x k v:ag}(hs:vm T σ t x k=U (v,σ')):vm T { σ with next:=m } t x k=U (v,{ σ' with next:=m }):=by
 unfold vm at hs⊢;have e:∀k,({ σ with next:=m }:bg).bT k=σ.bT k:=λ_=>rfl;split at hs
 next h1 h2=>
  try simp only[h1,h2]
  split at hs
  next b=>
   try simp only[b]
   split at hs
   .simp only[e]
    split at hs
    next c=>
     try simp only[c]
     split at hs
     next a=>cases hs;rw[b9 a];rfl
     rename_i a;rw[b8 a];split at hs
     next d=>
      rw[b9 d];split at hs
      .grind
      rename_i f;cases hs;(try simp only[f]);rfl
     cases hs
    cases hs
   cases hs
  cases hs
 cases hs
theorem au6{σ σ':bg}{m:Nat}{x k v:ag}(hs:vi σ x k v=U σ'):vi { σ with next:=m } x k v=U { σ' with next:=m }:=by
 unfold vi at hs⊢;have e:∀k,({ σ with next:=m }:bg).bT k=σ.bT k:=λ_=>rfl;split at hs
 .simp only[e]
  split at hs
  next a=>
   try simp only[a]
   split at hs
   next b=>cases hs;(try simp only[b]);rfl
   cases hs
  cases hs
 cases hs
theorem Rf{T:dd}{σ σ':bg}{m:Nat}{t:TypeId}{x k y:ag}(hs:q3 T σ t x k y=U σ'):q3 T { σ with next:=m } t x k y=U { σ' with next:=m }:=by
 unfold q3 at hs⊢;split at hs
 next h1 h2=>
  try simp only[h1,h2]
  split at hs
  .have e:∀k,({ σ with next:=m }:bg).bT k=σ.bT k:=λ_=>rfl
   simp only[e];split at hs
   next b=>
    try simp only[b]
    split at hs
    next a=>cases hs;rw[b9 a];rfl
    rename_i a;rw[b8 a];split at hs
    next c=>cases hs;rw[b9 c];rfl
    cases hs
   cases hs
  cases hs
 cases hs
theorem ax4{T:dd}{σ σ':bg}{id m:Nat}{sT xT:TypeId}{s x v:ag}(h:rR T σ id sT xT s x=U (v,σ')):rR T { σ with next:=m } id sT xT s x=U (v,{ σ' with next:=m }):=by
 unfold rR at h⊢;split at h
 next h1 h2=>
  try simp only[h1,h2]
  split at h
  next a=>
   try simp only[a]
   have b:∀e z y,qT { σ with next:=m } e z y=qT σ e z y:=λ_ _ _=>rfl;have c:∀y,nV { σ with next:=m } y=nV σ y:=λ_=>rfl;simp only[b,c];split at h
   next d f=>
    try simp only[d,f]
    split at h
    next g=>
     simp only[ai,cq]at h;obtain⟨rfl,rfl⟩:=h;rw[b9 g];simp only[ai,cq,pB];split<;>rfl
    cases h
   cases h
  cases h
 cases h
theorem av6(σ:bg)(m:Nat)(s:ag):om { σ with next:=m } s={ om σ s with next:=m }:=by
 unfold om;split
 next id z len=>
  have e:({ σ with next:=m }:bg).bT id=σ.bT id:=rfl;rw[e];split
  .split<;>rfl
  rfl
 rfl
theorem aw8{T:dd}{σ σ':bg}{id m:Nat}{sT xT:TypeId}{s x v:ag}(h:qt T σ id sT xT s x=U (v,σ')):qt T { σ with next:=m } id sT xT s x=U (v,{ σ' with next:=m }):=by
 unfold qt at h⊢;split at h
 .unfold wS at h⊢
  split at h
  .split at h
   next a=>
    rw[b9 a];cases h;rfl
   cases h
  cases h
 grind[av6,ax4]
theorem aP6{T:dd}{σ σ':bg}{m:Nat}{t:TypeId}{x:ag}(h:td T σ t x=U σ'):td T { σ with next:=m } t x=U { σ' with next:=m }:=by
 have e:∀i,bg.bT { σ with next:=m } i=σ.bT i:=λ_=>rfl;unfold td at h⊢;simp only[e];split at h
 .split at h
  .split at h
   next hc=>cases h;simp only[hc,jj,and_self];rfl
   cases h
  cases h
 cases h
def aO2{T:dd}{σ σ':bg}{id m:Nat}{t:TypeId}{n c v:ag}(h:tg T σ id t n c=U (v,σ')):tg T { σ with next:=m } id t n c=U (v,{ σ' with next:=m }):=by
 unfold tg at h⊢;split at h
 .split at h
  .split at h
   next hc=>cases h;rw[b9 hc];rfl
   cases h
  cases h
 cases h
theorem aP0{T:dd}{σ σ':bg}{m:Nat}{t:TypeId}{x y:ag}(h:sB T σ t x y=U σ'):sB T { σ with next:=m } t x y=U { σ' with next:=m }:=by
 have e:∀i,bg.bT { σ with next:=m } i=σ.bT i:=λ_=>rfl;have a:nV { σ with next:=m } y=nV σ y:=rfl;unfold sB at h⊢;simp only[e,a];split at h
 .split at h
  .split at h
   next hc=>cases h;rw[b9 hc];rfl
   cases h
  cases h
 cases h
def aW3{T:dd}{g:Operand->ag}{σ σ':bg}{id m:Nat}{op:Op}{v:ag}(h:j5 T g σ id op=U (v,σ')):j5 T g { σ with next:=m } id op=U (v,{ σ' with next:=m }):=by
 cases op with
 |move x=>cases h;rfl
 |assign x=>cases h;rfl
 |pick c a b=>grind[j5]
 |build t o=>grind[j5]
 |binOp b t x y yt=>grind[j5]
 |unOp b t x=>grind[j5]
 |convert s d x=>grind[j5]
 |slice t x b5 a7 pX=>grind[j5]
 |fieldAddr t x f=>grind[j5]
 |field t x f=>grind[j5]
 |indexAddr t x i=>grind[j5]
 |index t x i=>grind[j5]
 |extract x i=>grind[j5]
 |load t x=>
  simp only[j5]at h⊢;have e:sQ T { σ with next:=m } t (g x)=sQ T σ t (g x):=rfl;rw[e];split at h
  .grind
  cases h
 |lookup t x i ok=>
  simp only[j5]at h⊢;have e:oW T { σ with next:=m } t (g x) (g i) ok=oW T σ t (g x) (g i) ok:=rfl;rw[e];split at h
  .grind
  cases h
 |alloc t=>
  simp only[j5,zc]at h⊢;split at h
  next hv=>cases h;(try simp only[hv]);rfl
  cases h
 |box t x=>
  simp only[j5,yi]at h⊢;split at h
  next hv=>cases h;(try simp only[hv]);rfl
  cases h
 |buildSlice t len o=>
  simp only[j5,vh]at h⊢;split at h
  next h1=>
   split at h
   next h2=>
    split at h
    next j=>
     split at h
     next l=>cases h;(try simp only[h1,h2,j,l]);rfl
     cases h
    cases h
   cases h
  cases h
 |nilCheck x=>grind[j5]
 |makeFunc f a c=>cases h;rfl
 |makeMap t r=>
  cases r with
  |some r=>simp[j5]at h
  |none=>cases h;rfl
 |makeSlice t n c=>simp only[j5]at h⊢;exact aO2 h
 |store t a x=>
  simp only[j5]at h⊢;split at h
  next σ1 hs=>
   cases h;have e:rA T { σ with next:=m } t (g a) (g x)=U { σ' with next:=m }:=by
    unfold rA at hs⊢;split at hs
    next h1 h2 j=>
     try simp only[h1,h2,j]
     have e:∀k,({ σ with next:=m }:bg).bT k=σ.bT k:=λ_=>rfl;simp only[e];split at hs
     next l=>
      try simp only[l]
      split at hs
      next p=>
       try simp only[p]
       split at hs
       next q=>cases hs;rw[b9 q];rfl
       cases hs
      cases hs
     cases hs
    cases hs
   simp only[e]
  cases h
 |mapUpdate t x k y=>grind[j5,Rf]
 |insert t x k y=>grind[j5,Rf]
 |mapEntry t x k=>grind[j5,av8]
 |entryStore t x s y=>grind[j5,au6]
 |call c=>
  obtain⟨callee,args,ts⟩:=c;cases callee with
  |value f=>simp[j5]at h
  |invoke r m=>simp[j5]at h
  |builtin b=>
   simp only[j5]at h⊢;unfold pC at h⊢;split at h
   next h1 h2=>
    try simp only[h1,h2]
    have e:∀t x,pt T { σ with next:=m } t x=pt T σ t x:=λ_ _=>rfl;simp only[e];split at h
    .grind
    cases h
   .grind[aw8]
   next h1 h2=>
    try simp only[h1,h2]
    split at h
    .grind
    cases h
   next h1=>
    split at h
    .grind
    cases h
   next h1=>
    split at h
    .grind
    cases h
   .grind[aP6]
   .grind[aP0]
   cases h
 |_=>simp[j5]at h
structure z7 where
 tU:Nat->Option ag
 sH:Nat->Option (Option b7)
 tk:Option Nat
def wQ(P:Program)(ops:Array Oper)(n n0 N i:Nat)(cond:(Nat->ag)->bg->Prop)(ev:z7):Prop :=
 ∀G a w l8 σ,yg G n l8 σ a w->cond l8 σ->G.pl (n0+i)=No->n0+N<=σ.next->∀(K:Act->World->Prop) (Q:Exit->Act->World->Prop),
  (∀G' b w' σ',G.le G'->(∀j,j<n0+N->j≠n0+i->G.pl j=No->G'.pl j=No)->σ.next<=σ'.next->Fr G σ w G' σ' w'->yg G' n (λt=>(ev.tU t).getD (l8 t)) σ' b w' ->
   (∀id,σ'.bT id=(ev.sH id).getD (σ.bT id))->σ'.next=ev.tk.getD σ.next->K b w')->wpOp P ops Q i K a w
section
variable {P:Program} {T:dd} {ops:Array Oper} {n n0 N i:Nat} {o:Oper} {tm0:Nat->ag}
def aC2(c:ops[i]?=U o)(hw:xD ops n tm0 o=U IS)(d:oJ n o.dst=IN) :
  wQ P ops n n0 N i (λl8 _=>∀t∈o.looksAt ops,l8 t=tm0 t) ⟨tc o.dst (.bF undef),λ_=>No,No⟩:=by
 intro G a w l8 σ b hc _ _ K Q e;unfold wpOp;simp only[c,Hb b ((GK hc).trans hw),aq,j2];exact e G _ w σ (.refl G) (λ_ _ _ h=>h) (aw _) (.refl _ _ _) (b.put (.refl G) b.rel (.bF _) d) (λ_=>rfl) rfl
def aA5(ca:mc P T)(E:ops[i]?=U o)(a7:i<N)(hw:xD ops n tm0 o=U IN)(H:oJ n o.dst=IN)(st:bg)(v:ag)(σ1:bg)
  (ha:j5 T (oD tm0) (small st (nx (oD tm0) o.op)) (n0+i) o.op=U (v,σ1)) :
  wQ P ops n n0 N i (λl8 σ=>(∀t∈o.looksAt ops,l8 t=tm0 t)/\∀id∈nx (oD tm0) o.op,σ.bT id=st.bT id)
   ⟨tc o.dst v,λid=>if oS o.op=IN/\id∈nx (oD tm0) o.op then U (σ1.bT id)else if id=n0+i then(match σ1.bT id with|some x=>U (U x)|none=>No)else No,No⟩:=by
 intro G a w l8 σ b ⟨e,I⟩ c hN K Q J;let σv:bg:={ small st (nx (oD tm0) o.op)with next:=σ.next };have hv:∀id x,σv.bT id=U x->σ.bT id=U x:=λid x f=>by
  have:(small st (nx (oD tm0) o.op)).bT id=U x:=f
  grind[Ce]
 have p:Rel G σv w:=b.rel.less rfl hv;have g:j5 T (oD tm0) σv (n0+i) o.op=U (v,{ σ1 with next:=σ.next }):=aW3 ha;rw[<-bj6 (L8 e)]at g;obtain⟨G',u,w',h1,h2,h,M,q,B⟩:=Pw (P:=P) ca p b.eval c (by show n0+i<σ.next;omega) g;have C:=Ic ha;obtain⟨σ',r,k⟩:=R3 (λid=>((if oS o.op=IN/\id∈nx (oD tm0) o.op then U (σ1.bT id)else if id=n0+i then(match σ1.bT id with|some x=>U (U x)|none=>No)else No:Option (Option b7))).getD (σ.bT id)) σ.next (λid hid=>by
  have s:({ σ1 with next:=σ.next }:bg).bT id=No:=by
   cases z:({ σ1 with next:=σ.next }:bg).bT id with
   |none=>rfl
   |some x=>have:=q.Iy z;exact lH this (by show ¬id<σ.next;omega)
  have D:σ1.bT id=No:=s;have O:σ.bT id=No:=by
   cases z:σ.bT id with
   |none=>rfl
   |some x=>have:=b.rel.Iy z;omega
  grind)
 have l:∀id x,σ'.bT id=U x->({ σ1 with next:=σ.next }:bg).bT id=U x\/(σ.bT id=U x/\σv.bT id=No):=λid x f=>by
  rw[k]at f;show σ1.bT id=U x\/_;split at f
  .exact .inl (by simpa using f)
  rename_i R;have S:σ.bT id=U x->σ1.bT id=U x\/(σ.bT id=U x/\σv.bT id=No):=λhs=>by
   by_cases hm:id∈nx (oD tm0) o.op
   .grind[oS,small,nx,oD,Ce,bg.l1]
   refine .inr ⟨hs,?_⟩;show(small st (nx (oD tm0) o.op)).bT id=No;rw[Ce,b8 hm]
  grind
 have d:Rel G' σ' w':=b.rel.frame hv q B h1 (λid hid=>q.fresh id (by show σ.next<=id;omega)) l;have m:Fr G σ w G' σ' w':=Fr.frame b.rel hv B h1 l;unfold wpOp;simp only[E,Hb b ((GK e).trans hw),jj];left;have fin:=J G' (a.put o.dst u) w' σ' h1 (λj _ hj V=>h2 j hj V) (by omega) m (b.put h1 d M H) k (by simp[r]);unfold gH;rcases h with h|⟨h,h7⟩
 .rw[h];exact fin
 rw[h];subst h7;exact fin
end
section
variable {P:Program} {ops:Array Oper} {n n0 N i:Nat} {o:Oper} {tm0:Nat->ag}
def aO6{B:Operand}{args:Array Operand}{ts:Array TypeId}{f:FuncId}{first cap:List ag}(ho:ops[i]?=U o)(l:o.op=.call { callee:=.value B,args:=args,argTypes:=ts })
  (hw:xD ops n tm0 o=U IN) (hd:oJ n o.dst=IN) (R:oD tm0 B=.fn (.func f) first cap)
  (st view:bg) (v:ag) (σ1:bg) (ex:Nat->Bool) (m:view.next=st.next) (p:∀id,view.bT id=if ex id then No else st.bT id) (C:∀id,id<st.next->σ1.bT id=view.bT id)
  (hc:po P f (first++args.toList.map (oD tm0)++cap) view (λS b=>S=v/\b=σ1)) :
  wQ P ops n n0 N i (λl8 σ=>(∀t∈o.looksAt ops,l8 t=tm0 t)/\σ.next=st.next/\∀id,ex id=IS->σ.bT id=st.bT id)
   ⟨tc o.dst v,λid=>if id<st.next then No else U (σ1.bT id),U σ1.next⟩:=by
 intro G a w l8 σ q ⟨D,E,V⟩ hfree hN K Q hK;have g:∀id x,view.bT id=U x->σ.bT id=U x:=λid x c=>by
  rw[p]at c;split at c
  .cases c
  rename_i he;rw[V id (by simpa using he)];exact c
 have hrv:Rel G view w:=q.rel.less (by rw[m,E]) g;have d:=L8 (ops:=ops) D;have H:oD l8 B=.fn (.func f) first cap:=by rw[d B (by rw[l];simp[aL,fK])];exact R
 have h:args.toList.map (oD l8)=args.toList.map (oD tm0):=Es (λx c=>d x (by rw[l];simp[aL,fK,c]));have r:=q.eval B;rw[H]at r;generalize hev:a.eval B=u at r;cases r with
 |fn _ _ _ fv cv h1 h2 h3 h4=>
 have s:gl G (first++args.toList.map (oD tm0)++cap) (fv++args.toList.map a.eval++cv):=by rw[<-h];exact(gl.append (G:=G) ⟨h1,h3⟩ (gl.map q.eval args.toList)).append ⟨h2,h4⟩
 have I:(execOp a.eval o).run P w=(callFunc f (fv++args.toList.map a.eval++cv).toArray).run P w:=by
  have e:fv.toArray++args.map a.eval++cv.toArray=(fv++args.toList.map a.eval++cv).toArray:=by apply dz;simp
  simp only[execOp,l,resolve,hev,i_,an,ar,ah,invoke,e]
 unfold wpOp;simp only[ho,Hb q ((GK D).trans hw),jj];left;unfold gH;rw[I];refine hc G _ w s hrv o a _ _ ?_;rintro S av b G' w' k b2 b3 ⟨rfl,rfl⟩;have hnx:st.next<=b.next:=by rw[<-m];exact k.next
 obtain⟨σ',hn',J⟩:=R3 (λid=>((if id<st.next then No else U (b.bT id):Option (Option b7))).getD (σ.bT id)) b.next (λid hid=>by
  rw[b8 (by omega)];simp only[cg];cases hh:b.bT id with
  |none=>rfl
  |some x=>have:=b3.Iy hh;omega)
 have M:∀id x,σ'.bT id=U x->b.bT id=U x\/(σ.bT id=U x/\view.bT id=No):=λid x c=>by
  rw[J]at c;split at c
  next hlt=>
   simp only[fG]at c;cases hv:view.bT id with
   |none=>exact .inr ⟨c,rfl⟩
   |some y=>have:=g id y hv;rw[c]at this;cases this;exact .inl (by rw[C id hlt];exact hv)
  exact .inl (by simpa using c)
 have z:Rel G' σ' w':=q.rel.frame g b3 k.bb k.le (λid hid=>b3.fresh id (by omega)) M;have O:Fr G σ w G' σ' w':=Fr.frame q.rel g k.bb k.le M;exact hK G' (a.put o.dst S) w' σ' k.le (λj hj _ hg=>k.keeps j (by rw[m,<-E];omega) hg) (by omega) O (q.put k.le z b2 hd) J (by simp[hn'])
def aQ8{l:Operand}{args:Array Operand}{ts:Array TypeId}{f:FuncId}{first cap:List ag}(R:ops[i]?=U o)(g:o.op=.call { callee:=.value l,args:=args,argTypes:=ts })
  (hw:xD ops n tm0 o=U IN) (S:oJ n o.dst=IN) (C:oD tm0 l=.fn (.func f) first cap)
  (st:bg) (v:ag) (σ1:bg) (hc:po P f (first++args.toList.map (oD tm0)++cap) st (λD b=>D=v/\b=σ1)) :
  wQ P ops n n0 N i (λl8 σ=>(∀t∈o.looksAt ops,l8 t=tm0 t)/\σ.next=st.next/\∀id,σ.bT id=st.bT id)
   ⟨tc o.dst v,λid=>U (σ1.bT id),U σ1.next⟩:=by
 intro G a w l8 σ m ⟨p,E,H⟩ I hN K Q V;have q:∀id x,st.bT id=U x->σ.bT id=U x:=λid x J=>by rw[H];exact J
 have M:Rel G st w:=m.rel.less E.symm q;have c:=L8 (ops:=ops) p;have r:oD l8 l=.fn (.func f) first cap:=by rw[c l (by rw[g];simp[aL,fK])];exact C
 have d:args.toList.map (oD l8)=args.toList.map (oD tm0):=Es (λx J=>c x (by rw[g];simp[aL,fK,J]));have h:=m.eval l;rw[r]at h;generalize O:a.eval l=u at h;cases h with
 |fn _ _ _ fv cv h1 h2 h3 h4=>
 have k:gl G (first++args.toList.map (oD tm0)++cap) (fv++args.toList.map a.eval++cv):=by rw[<-d];exact(gl.append (G:=G) ⟨h1,h3⟩ (gl.map m.eval args.toList)).append ⟨h2,h4⟩
 have s:(execOp a.eval o).run P w=(callFunc f (fv++args.toList.map a.eval++cv).toArray).run P w:=by
  have e:fv.toArray++args.map a.eval++cv.toArray=(fv++args.toList.map a.eval++cv).toArray:=by apply dz;simp
  simp only[execOp,g,resolve,O,i_,an,ar,ah,invoke,e]
 unfold wpOp;simp only[R,Hb m ((GK p).trans hw),jj];left;unfold gH;rw[s];refine hc G _ w k M o a _ _ ?_;rintro D av b G' w' z b2 b3 ⟨rfl,rfl⟩;have hnx:=z.next;have B:Fr G σ w G' b w':=(Fr.less (σ:=σ) (σ':=st) q).trans z.bb;exact V G' (a.put o.dst D) w' b z.le (λj hj _ hg=>z.keeps j (by omega) hg) (by omega) B (m.put z.le b3 b2 S) (λ_=>rfl) rfl
end
def Ef(acc:List Nat)(o:Oper):Nat:=o.after.toList.foldl (λm e=>if cN .any e then m ||| 2^e.on |||acc.getD e.on 0 else m) 0
def ox:List Oper->List Nat->List Nat
 | [],acc=>acc
 |o::os,acc=>ox os (acc++[Ef acc o])
def Nf(acc:List Nat)(i:Nat):∀(es:List Edge) (m:Nat),(es.foldl (λm e=>if cN .any e then m ||| 2^e.on |||acc.getD e.on 0 else m) m).testBit i=IN ->
  m.testBit i=IN\/∃e∈es,cN .any e=IN/\(i=e.on\/(acc.getD e.on 0).testBit i=IN)
 | [],m,h=>.inl h
 |e::es,m,h=>by
  simp only[fP]at h;rcases Nf acc i es _ h with h1|⟨c,a,h1⟩
  .split at h1
   next b=>
    rw[kC,kC,bD,bD]at h1;rcases h1 with(h1|h1)|h1
    .exact .inl h1
    .refine .inr ⟨e,by simp,b,.inl ?_⟩
     rw[Nat.testBit_two_pow]at h1;have:e.on=i:=by simpa using h1
     exact this.symm
    exact .inr ⟨e,by simp,b,.inr h1⟩
   exact .inl h1
  exact .inr ⟨c,by simp[a],h1⟩
def Ns:∀(os:List Oper) (acc:List Nat) (j:Nat),j<acc.length->(ox os acc).getD j 0=acc.getD j 0
 | [],acc,j,h=>rfl
 |o::os,acc,j,h=>by rw[ox,Ns os _ j (by simp;omega)];simp[iJ,dp,h]
def WT:∀(os:List Oper) (acc:List Nat) (k:Nat) (o:Oper),os[k]?=U o->∃a:List Nat,(ox os acc).getD (acc.length+k) 0=Ef a o/\a.length=acc.length+k/\∀j,j<a.length->a.getD j 0=(ox os acc).getD j 0
 | [],acc,k,o,h=>by simp at h
 |o'::os,acc,0,o,h=>by simp at h;subst h;refine⟨acc,?_,by simp,λj hj=>by rw[ox,Ns os _ j (by simp;omega)];simp[iJ,dp,hj]⟩;rw[ox,dW,Ns os _ _ (by simp)];simp[iJ]
 |o'::os,acc,k+1,o,h=>by obtain⟨a,h1,h2,b⟩:=WT os (acc++[Ef acc o']) k o (by simpa using h);refine⟨a,?_,by simp at h2;omega,b⟩;rw[ox];simp only[aT,aA,bL]at h1;rw[show acc.length+(k+1)=acc.length+(0+1)+k from by omega];exact h1
def zf(ops:Array Oper)(p:Nat->Bool):Prop:=∀(j:Nat) (o:Oper),ops[j]?=U o->p j=IN->∀e∈o.after,cN .any e=IN->p e.on=IN
def EI{ops:Array Oper}{p:Nat->Bool}(g:zf ops p):∀(j:Nat) (o:Oper),ops[j]?=U o->(∀e∈o.after,cN .any e=IN->p e.on=IN)->∀i,((ox ops.toList []).getD j 0).testBit i=IN->p i=IN:=by
 intro j
 induction j using Nat.strongRecOn with
 |_ j m=>
  intro o k b i l;obtain⟨acc,h1,h2,n⟩:=WT ops.toList [] j o (by simpa using k);simp only[bL,aN]at h1 h2;rw[h1]at l;rcases Nf acc i _ _ l with h|⟨e,he,a,h⟩
  .simp at h
  have c:=b e (by simpa using he) a;rcases h with rfl|h
  .exact c
  by_cases d:e.on<acc.length
  .rw[n _ d]at h
   have q:j<ops.size:=(aS.1 k).1;have f:ops[e.on]?=U (ops[e.on]'(by omega)):=aZ _;exact m e.on (by omega) _ f (g e.on _ f c) i h
  rw[show acc.getD e.on 0=0 from by simp[iJ,bM (Nat.le_of_not_lt d)]]at h;simp at h
structure qQ where
 rd:List Nat
 wr:List Nat
 call:Bool
 lC:Nat
 pE:Bool
def idle:Op->Bool
 | .move _| .assign _| .pick .. | .build .. | .nilCheck _| .binOp .. | .unOp .. | .convert .. | .makeFunc .. | .slice .. | .fieldAddr .. | .field .. | .indexAddr .. | .index .. | .extract ..=>IN
 |_=>IS
def bp5{T:dd}{b:Operand->ag}{σ σ':bg}{id:Nat}{op:Op}{v:ag}(h:j5 T b σ id op=U (v,σ'))(a7:idle op=IN):σ'=σ/\nx b op=[]/\oS op=IS:=by
 cases op with
 |move x=>cases h;exact⟨rfl,rfl,rfl⟩
 |assign x=>cases h;exact⟨rfl,rfl,rfl⟩
 |makeFunc f a c=>cases h;exact⟨rfl,rfl,rfl⟩
 |nilCheck x=>
  simp only[j5]at h;split at h
  .cases h;exact⟨rfl,rfl,rfl⟩
  .cases h;exact⟨rfl,rfl,rfl⟩
  .cases h;exact⟨rfl,rfl,rfl⟩
  cases h
 |pick _ _ _=>simp only[j5]at h;split at h<;>first| (cases h;exact⟨rfl,rfl,rfl⟩)|cases h
 |build _ _=>simp only[j5]at h;split at h<;>first| (cases h;exact⟨rfl,rfl,rfl⟩)|cases h
 |binOp _ _ _ _ _=>simp only[j5]at h;split at h<;>first| (cases h;exact⟨rfl,rfl,rfl⟩)|cases h
 |unOp _ _ _=>simp only[j5]at h;split at h<;>first| (cases h;exact⟨rfl,rfl,rfl⟩)|cases h
 |convert _ _ _=>simp only[j5]at h;split at h<;>first| (cases h;exact⟨rfl,rfl,rfl⟩)|cases h
 |slice _ _ _ _ _=>simp only[j5]at h;split at h<;>first| (cases h;exact⟨rfl,rfl,rfl⟩)|cases h
 |fieldAddr _ _ _=>simp only[j5]at h;split at h<;>first| (cases h;exact⟨rfl,rfl,rfl⟩)|cases h
 |field _ _ _=>simp only[j5]at h;split at h<;>first| (cases h;exact⟨rfl,rfl,rfl⟩)|cases h
 |indexAddr _ _ _=>simp only[j5]at h;split at h<;>first| (cases h;exact⟨rfl,rfl,rfl⟩)|cases h
 |index _ _ _=>simp only[j5]at h;split at h<;>first| (cases h;exact⟨rfl,rfl,rfl⟩)|cases h
 |extract _ _=>simp only[j5]at h;split at h<;>first| (cases h;exact⟨rfl,rfl,rfl⟩)|cases h
 |_=>simp[idle]at a7
def rv(σ1:bg):List Nat->bg->bg
 | [],σ=>σ
 |i::is,σ=>rv σ1 is (match σ1.bT i with|some o=>σ.set i o|none=>σ.del i)
def EB(σ1:bg):∀(is:List Nat) (σ:bg) (k:Nat),(rv σ1 is σ).bT k=if k∈is then σ1.bT k else σ.bT k
 | [],σ,k=>by simp[rv]
 |i::is,σ,k=>by
  rw[rv,EB σ1 is];by_cases e:k∈is
  .simp[e]
  rw[b8 e];by_cases a:k=i
  .subst a
   rw[b9 (by simp)];cases h:σ1.bT k with
   |none=>simp[bg.tb]
   |some o=>simp[bg.l1]
  rw[b8 (by simp[e,a])];cases h:σ1.bT i with
  |none=>simp[bg.tb,a]
  |some o=>simp[bg.l1,a]
def Et(σ1:bg):∀(is:List Nat) (σ:bg),(rv σ1 is σ).next=σ.next
 | [],σ=>rfl
 |i::is,σ=>by rw[rv,Et σ1 is];cases σ1.bT i<;>rfl
def qE(n0 N mask:Nat):List Nat:=(bo N).filterMap λj=>if mask.testBit j then No else U (n0+j)
def saved(σ:bg)(ids:List Nat):List (Nat×b7):=ids.filterMap λid=>(σ.bT id).map λo=>(id,o)
def rB:List (Nat×b7)->bg->bg
 | [],σ=>σ
 |p::a,σ=>rB a (σ.del p.1)
def tB:List (Nat×b7)->bg->bg
 | [],σ=>σ
 |p::a,σ=>tB a (σ.set p.1 p.2)
def Sl:∀(l:List (Nat×b7)) (σ:bg) (k:Nat),(rB l σ).bT k=if k∈l.map (·.1)then No else σ.bT k
 | [],σ,k=>by simp[rB]
 |p::b,σ,k=>by
  rw[rB,Sl b,bg.tb];by_cases e:k∈b.map (·.1)
  .simp[e]
  by_cases a:k=p.1
  .simp[a]
  rw[b8 e,b8 a,b8 (by simp only[ay,aI,not_or];exact⟨a,e⟩)]
def LW:∀(l:List (Nat×b7)) (σ:bg),(rB l σ).next=σ.next
 | [],σ=>rfl
 |p::a,σ=>by rw[rB,LW a];rfl
def Mh:∀(l:List (Nat×b7)) (σ:bg),(tB l σ).next=σ.next
 | [],σ=>rfl
 |p::a,σ=>by rw[tB,Mh a];rfl
def Sk(g:Nat->Option b7):∀(l:List (Nat×b7)) (σ:bg) (k:Nat),(∀p∈l,g p.1=U p.2)->(tB l σ).bT k=if k∈l.map (·.1)then g k else σ.bT k
 | [],σ,k,_=>by simp[tB]
 |p::b,σ,k,h=>by
  rw[tB,Sk g b _ k (λq c=>h q (by simp[c])),bg.l1];by_cases e:k∈b.map (·.1)
  .simp[e]
  by_cases a:k=p.1
  .subst a
   rw[b8 e,b9 rfl,b9 (by simp),h p (by simp)]
  rw[b8 e,b8 a,b8 (by simp only[ay,aI,not_or];exact⟨a,e⟩)]
def bf1(σ:bg)(ids:List Nat):(∀p∈saved σ ids,σ.bT p.1=U p.2)/\∀k,k∈(saved σ ids).map (·.1)↔k∈ids/\(σ.bT k).isSome=IN:=by
 refine⟨λp hp=>?_,λk=>?_⟩
 .obtain⟨id,_,h⟩:=dP.1 hp
  cases a:σ.bT id with
  |none=>simp[a]at h
  |some o=>simp[a]at h;subst h;exact a
 constructor
 .intro h
  obtain⟨p,hp,rfl⟩:=aP.1 h;obtain⟨id,hid,h⟩:=dP.1 hp;cases a:σ.bT id with
  |none=>simp[a]at h
  |some o=>simp[a]at h;subst h;exact⟨hid,by simp[a]⟩
 rintro ⟨h1,h2⟩;cases a:σ.bT k with
 |none=>simp[a]at h2
 |some o=>exact aP.2 ⟨(k,o),dP.2 ⟨k,h1,by simp[a]⟩,rfl⟩
def u5(T:dd)(cl:FuncId->List ag->bg->Option (ag×bg))(ops:Array Oper)(n0 N mask i:Nat)(pE:Bool)(s:AS)(o:Oper):Option (AS×qQ) :=
 match oV ops s o,oJ s.n o.dst with
 |some IS,IN=>U (s.put o.dst (.bF undef),⟨[],[],IS,0,IS⟩)
 |some IN,IN=>
  match o.op with
  | .call { callee:=.value a,args:=args,argTypes:=_ }=>
   match s.eval a with
   | .fn (.func f) first cap=>
    if pE then
     match cl f (first++args.toList.map s.eval++cap) s.st with
     |some (v,σ1)=>if s.st.next<=σ1.next then U ({ s with st:=σ1 }.put o.dst v,⟨[],[],IS,0,IN⟩)else No
     |none=>No else
    match cl f (first++args.toList.map s.eval++cap) { rB (saved s.st (qE n0 N mask)) s.st with low:=s.st.next }with
    |some (v,σ1)=>if s.st.next<=σ1.low/\s.st.next<=σ1.next then
      U ({ s with st:={ tB (saved s.st (qE n0 N mask)) σ1 with low:=min s.st.low s.st.next } }.put o.dst v,⟨[],[],IN,s.st.next,IS⟩)else No
    |none=>No
   |_=>No
  |op=>
   match j5 T s.eval (small s.st (nx s.eval op)) (n0+i) op with
   |some (v,σ1)=>
    U ({ s with st:=(match σ1.bT (n0+i)with
     |some x=>(if oS op then rv σ1 (nx s.eval op) s.st else s.st).set (n0+i) x
     |none=>(if oS op then rv σ1 (nx s.eval op) s.st else s.st)) }.put o.dst v,⟨nx s.eval op,if oS op then nx s.eval op else [],IS,0,IS⟩)
   |none=>No
 |_,_=>No
def Dg(ops:Array Oper)(a:List Nat)(i:Nat):Bool :=(bo ops.size).all λj=>j==i||(match ops[j]? with|some o=>idle o.op|none=>IN)||(a.getD i 0).testBit j||(a.getD j 0).testBit i
def zd:Op->Bool
 | .call { callee:=.value _,.. }=>IN
 |_=>IS
def yh(T:dd)(cl:FuncId->List ag->bg->Option (ag×bg))(ops:Array Oper)(n0 N:Nat)(a:List Nat):List Oper->Nat->AS->Option (AS×List qQ)
 | [],_,s=>U (s,[])
 |o::rest,i,s=>match u5 T cl ops n0 N (a.getD i 0) i (zd o.op&&Dg ops a i) s o with
  |some (s1,f)=>match yh T cl ops n0 N a rest (i+1) s1 with
   |some (s2,fs)=>U (s2,f::fs)
   |none=>No
  |none=>No
def zg(n0 i j:Nat)(a b:qQ):Bool :=
 (a.wr.all λx=>!(b.rd++b.wr).contains x)&&(b.wr.all λx=>!a.rd.contains x)&&!(b.rd++b.wr).contains (n0+i)&&!(a.rd++a.wr).contains (n0+j)&&!(a.call&&b.call)&&!a.pE&&!b.pE &&
 (!a.call||(b.wr.isEmpty&&b.rd.all λx=>IT (x<a.lC)))&&(!b.call||(a.wr.isEmpty&&a.rd.all λx=>IT (x<b.lC)))
def AL(ops:Array Oper)(c:List Nat):List (Nat×Nat) :=
 (bo ops.size).flatMap λj=>(bo j).filterMap λi=>
  if(c.getD j 0).testBit i then No else
  match ops[i]?,ops[j]? with
  |some a,U b=>if idle a.op||idle b.op then No else U (i,j)
  |_,_=>No
def FI(ops:Array Oper)(c:List Nat):Bool :=
 (bo ops.size).all λj=>(match ops[j]? with|some o=>o.after.all (λe=>!Region.binds .any e||IT (e.on<j))|none=>IN) &&
  (bo j).all λi=>(c.getD j 0).testBit i||(match ops[i]?,ops[j]? with|some a,U b=>a.apart ops b|_,_=>IN)
def AM(T:dd)(cl:FuncId->List ag->bg->Option (ag×bg))(ops:Array Oper)(s:AS):Option AS :=
 if FI ops (ox ops.toList [])then
  match yh T cl ops s.st.next ops.size (ox ops.toList []) ops.toList 0 { s with st:={ s.st with next:=s.st.next+ops.size } }with
  |some (s',fs)=>if(AL ops (ox ops.toList [])).all (λp=>zg s.st.next p.1 p.2 (fs.getD p.1 ⟨[],[],IS,0,IS⟩) (fs.getD p.2 ⟨[],[],IS,0,IS⟩))then U s' else No
  |none=>No else No
def Gx(ops:Array Oper)(n0 N mask:Nat)(o:Oper)(f:qQ)(s:AS)(l8:Nat->ag)(σ:bg):Prop :=
 (∀t∈o.looksAt ops,l8 t=s.get t)/\(∀id∈f.rd,σ.bT id=s.st.bT id)/\(f.call=IN->σ.next=s.st.next/\∀id,id∉qE n0 N mask->σ.bT id=s.st.bT id) /\
  (f.pE=IN->σ.next=s.st.next/\∀id,σ.bT id=s.st.bT id)
structure DH(n0 N i:Nat)(o:Oper)(f:qQ)(ev:z7):Prop where
 tmp:∀t,ev.tU t≠No->o.dst=U t
 obj:∀id,ev.sH id≠No->id∈f.wr\/id=n0+i\/(f.call=IN/\f.lC<=id)\/f.pE=IN
 num:f.call=IS->f.pE=IS->ev.tk=No
 start:f.call=IN->n0+N<=f.lC
 idle:idle o.op=IN->(∀id,ev.sH id=No)/\f.call=IS/\f.rd=[]/\f.pE=IS
def Ia(s:AS)(σ:bg)(d:Option Tmp)(v:ag)(t:Nat):({ s with st:=σ }.put d v).get t=(tc d v t).getD (s.get t):=by
 cases d with
 |none=>rfl
 |some d=>
  rw[AS.Hx];simp only[tc];by_cases e:t=d
  .simp[e]
  rw[b8 e,b8 (by simp;exact λh=>e h.symm)];rfl
def wQ.Kp{P:Program}{ops:Array Oper}{n n0 N i:Nat}{c c':(Nat->ag)->bg->Prop}{ev:z7}(h:wQ P ops n n0 N i c ev)(hc:∀l8 σ,c' l8 σ->c l8 σ):wQ P ops n n0 N i c' ev :=λG a w l8 σ d b=>h G a w l8 σ d (hc l8 σ b)
def TG{n0 N mask id:Nat}:id∈qE n0 N mask↔∃j,j<N/\mask.testBit j=IS/\id=n0+j:=by
 unfold qE;rw[dP];constructor
 .rintro ⟨j,hj,h⟩
  split at h
  .cases h
  rename_i a;cases h;exact⟨j,by simpa using hj,by simpa using a,rfl⟩
 rintro ⟨j,hj,a,rfl⟩;exact⟨j,by simpa using hj,by simp[a]⟩
section
variable {P:Program} {T:dd} (ca:mc P T) {cl:FuncId->List ag->bg->Option (ag×bg)}
 (hcl:∀f args σ v σ',cl f args σ=U (v,σ')->po P f args σ (λv' σ''=>v'=v/\σ''=σ')/\pH σ σ')
 {ops:Array Oper} {n0 N:Nat}
include ca hcl
theorem bs4{mask i:Nat}{pE:Bool}{s s1:AS}{o:Oper}{f:qQ}(C:ops[i]?=U o)(a7:i<N)(R:n0+N<=s.st.next)(h:u5 T cl ops n0 N mask i pE s o=U (s1,f)) :
  ∃ev,DH n0 N i o f ev/\(∀t,s1.get t=(ev.tU t).getD (s.get t))/\(∀id,s1.st.bT id=(ev.sH id).getD (s.st.bT id))/\s1.st.next=ev.tk.getD s.st.next/\s1.n=s.n/\s.st.next<=s1.st.next /\
   wQ P ops s.n n0 N i (Gx ops n0 N mask o f s) ev:=by
 unfold u5 at h;split at h
 next hw w=>
  cases h;refine⟨⟨tc o.dst (.bF undef),λ_=>No,No⟩,⟨λt b=>?_,λid hid=>lH rfl hid,λ_ _=>rfl,(λh=>by cases h),λ_=>⟨λ_=>rfl,rfl,rfl,rfl⟩⟩,λt=>?_,λid=>by simp,by simp,by simp,by simp,?_⟩
  .simp only[tc]at b;split at b
   .assumption
   exact lH rfl b
  .have:=Ia s s.st o.dst (.bF undef) t;exact this
  exact(aC2 C hw w).Kp λl8 σ hc=>hc.1
 next hw w=>
  split at h
  next fo args ts k=>
   split at h
   next fi first cap z=>
    split at h
    .split at h
     next v σ1 hc=>
      split at h
      next D=>
       cases h;obtain⟨a,B⟩:=hcl _ _ _ _ _ hc;have c:args.toList.map s.eval=args.toList.map (oD s.get):=bp λx _=>AS.eval_eq s x;refine⟨⟨tc o.dst v,λid=>U (σ1.bT id),U σ1.next⟩,⟨λt b=>?_,λid hid=>.inr (.inr (.inr rfl)),(λ_ h=>by cases h),(λh=>by cases h),(λh=>by rw[k]at h;simp[Go.Ab.idle]at h)⟩,λt=>Ia s _ o.dst v t,λid=>by simp,by simp,by simp,by simpa using D,?_⟩
       .simp only[tc]at b;split at b
        .assumption
        exact lH rfl b
       refine(aQ8 (n0:=n0) (N:=N) C k hw w (by rw[<-AS.eval_eq];exact z) s.st v σ1 (by rw[<-c];exact a)).Kp ?_;rintro l8 σ ⟨c1,c2,M,E⟩;exact⟨c1,E rfl⟩
      cases h
     cases h
    split at h
    next v σ1 hc=>
     split at h
     next p=>
      cases h;obtain⟨a,B⟩:=hcl _ _ _ _ _ hc;obtain⟨G,l⟩:=bf1 s.st (qE n0 N mask);have d:∀id,({ rB (saved s.st (qE n0 N mask)) s.st with low:=s.st.next }:bg).bT id=if(qE n0 N mask).contains id then No else s.st.bT id:=λid=>by
       show(rB (saved s.st (qE n0 N mask)) s.st).bT id=_;rw[Sl];by_cases e:id∈qE n0 N mask
       .have:(qE n0 N mask).contains id=IN:=by simpa using e
        rw[this];simp only[jj];cases r:s.st.bT id with
        |none=>simp
        |some x=>rw[b9 ((l id).2 ⟨e,by simp[r]⟩)]
       have:(qE n0 N mask).contains id=IS:=by simpa using e
       rw[this];rw[b8 (λH=>e ((l id).1 H).1)];simp
      have q:∀id,id<s.st.next->σ1.bT id=({ rB (saved s.st (qE n0 N mask)) s.st with low:=s.st.next }:bg).bT id:=λid hid=>B.2 id (by omega);have hex:∀id,id∈qE n0 N mask->id<s.st.next:=λid hid=>by obtain⟨j,hj,_,rfl⟩:=TG.1 hid;omega
      refine⟨⟨tc o.dst v,λid=>if id<s.st.next then No else U (σ1.bT id),U σ1.next⟩,⟨λt b=>?_,λid hid=>?_,(λh _=>by cases h),λ_=>R,(λh=>by rw[k]at h;simp[Go.Ab.idle]at h)⟩,λt=>Ia s _ o.dst v t,λid=>?_,?_,by simp,?_,?_⟩
      .simp only[tc]at b;split at b
       .assumption
       exact lH rfl b
      .refine .inr (.inr (.inl ⟨rfl,?_⟩))
       simp only at hid;split at hid
       .exact lH rfl hid
       show s.st.next<=id;omega
      .simp only[AS.Bt]
       show(tB (saved s.st (qE n0 N mask)) σ1).bT id=_;rw[Sk s.st.bT _ _ _ G];by_cases e:id<s.st.next
       .rw[b9 e]
        simp only[fG];split
        .rfl
        rename_i I;rw[q id e,d id];split
        next J=>
         cases r:s.st.bT id with
         |none=>rfl
         |some x=>exact lH ((l id).2 ⟨by simpa using J,by simp[r]⟩) I
        rfl
       rw[b8 e,b8 (λH=>e (hex id ((l id).1 H).1))];rfl
      .simp only[AS.Bt]
       show(tB (saved s.st (qE n0 N mask)) σ1).next=_;rw[Mh];rfl
      .simp only[AS.Bt]
       show s.st.next<=(tB (saved s.st (qE n0 N mask)) σ1).next;rw[Mh];exact p.2
      have c:args.toList.map s.eval=args.toList.map (oD s.get):=bp λx _=>AS.eval_eq s x;refine(aO6 (n0:=n0) (N:=N) C k hw w (by rw[<-AS.eval_eq];exact z) s.st { rB (saved s.st (qE n0 N mask)) s.st with low:=s.st.next } v σ1 (λid=>(qE n0 N mask).contains id) (LW _ _) d q (by rw[<-c];exact a)).Kp ?_;rintro l8 σ ⟨c1,c2,M,_⟩;obtain⟨E,S⟩:=M rfl;exact⟨c1,E,λid hid=>S id (by simpa using hid)⟩
     cases h
    cases h
   cases h
  rename_i V;split at h
  next v σ1 ha=>
   cases h;have g:s.eval=oD s.get:=funext (AS.eval_eq s);rw[g]at ha;have p:=Ic ha;refine⟨_,⟨λt b=>?_,λid hid=>?_,λ_ _=>rfl,(λh=>by cases h),λu=>?_⟩,λt=>Ia s _ o.dst v t,λid=>?_,?_,by simp,?_,(aA5 ca C a7 hw w s.st v σ1 ha).Kp ?_⟩
   .simp only[tc]at b;split at b
    .assumption
    exact lH rfl b
   .simp only at hid
    rw[g];split at hid
    next hc=>left;rw[b9 hc.1];exact hc.2
    split at hid
    next e=>exact .inr (.inl e)
    exact lH rfl hid
   .obtain⟨e1,O,e3⟩:=bp5 ha u
    refine⟨λid=>?_,rfl,by rw[g];exact O,rfl⟩;simp only[e3,aq,false_and,j2];split
    .rw[e1,Ce,O];simp
    rfl
   .simp only[AS.Bt]
    rw[g];by_cases Q:oS o.op=IN
    .simp only[Q,jj,pB]
     by_cases hm:id∈nx (oD s.get) o.op
     .rw[b9 hm]
      split
      next x m=>
       rw[bg.l1];split
       next e=>rw[e];simp[m]
       rw[EB,b9 hm];rfl
      rw[EB,b9 hm];rfl
     rw[b8 hm];split
     next x m=>
      rw[bg.l1];split
      next e=>rw[e];simp[m]
      rw[EB,b8 hm];rfl
     rename_i m;rw[EB,b8 hm];split
     next e=>rw[e];simp[m]
     rfl
    have K:oS o.op=IS:=by simpa using Q
    simp only[K,aq,j2,false_and];split
    next x m=>
     rw[bg.l1];split
     next e=>rw[e];simp[m]
     rfl
    rename_i m;split
    next e=>rw[e];simp[m]
    rfl
   .simp only[AS.Bt,fG]
    split
    .simp only[bg.F'];split
     .rw[Et]
     rfl
    split
    .rw[Et]
    rfl
   .simp only[AS.Bt]
    split
    .simp only[bg.F'];split
     .rw[Et];exact aw _
     exact aw _
    split
    .rw[Et];exact aw _
    exact aw _
   rintro l8 σ ⟨c1,c2,_⟩;exact⟨c1,λid hid=>c2 id (by rw[g];exact hid)⟩
  cases h
 cases h
theorem N_{a:List Nat}:∀(l:List Oper) (i:Nat) (s s':AS) (fs:List qQ),(∀j:Nat,l[j]?=ops[i+j]?)->i+l.length<=N->n0+N<=s.st.next->yh T cl ops n0 N a l i s=U (s',fs) ->
  ∃(evs:List z7) (sts:List AS),evs.length=l.length/\fs.length=l.length/\sts.length=l.length/\s'.n=s.n /\
   (∀(j:Nat) o f ev st,l[j]?=U o->fs[j]?=U f->evs[j]?=U ev->sts[j]?=U st->DH n0 N (i+j) o f ev/\wQ P ops s.n n0 N (i+j) (Gx ops n0 N (a.getD (i+j) 0) o f st) ev/\(f.call=IN->f.lC=st.st.next) /\
    (∀t,st.get t=fold (λk=>IT (k<i+j)) (evs.map (·.tU)) i s.get t)/\(∀id,st.st.bT id=fold (λk=>IT (k<i+j)) (evs.map (·.sH)) i s.st.bT id) /\
    (st.st.next=fold (λk=>IT (k<i+j)) (evs.map λe=>λ_:Unit=>e.tk) i (λ_=>s.st.next) ())) /\
   (∀t,s'.get t=fold (λ_=>IN) (evs.map (·.tU)) i s.get t)/\(∀id,s'.st.bT id=fold (λ_=>IN) (evs.map (·.sH)) i s.st.bT id) /\
   (s'.st.next=fold (λ_=>IN) (evs.map λe=>λ_:Unit=>e.tk) i (λ_=>s.st.next) ())
 | [],i,s,s',fs,_,_,_,h=>by simp only[yh,ai,cq]at h;obtain⟨rfl,rfl⟩:=h;exact⟨[],[],rfl,rfl,rfl,rfl,λj o f ev st hj=>by simp at hj,λ_=>rfl,λ_=>rfl,rfl⟩
 |o::rest,i,s,s',fs,hl,x,z,h=>by
  have B:ops[i]?=U o:=by have:=hl 0;simpa using this.symm
  have g:∀j:Nat,rest[j]?=ops[i+1+j]?:=λj=>by have:=hl (j+1);simpa[eH,fF 1 j]using this
  simp only[aA]at x;unfold yh at h;split at h
  next s1 f hs=>
   split at h
   next s2 fs' C=>
    cases h;obtain⟨ev,D,E,G,H,w,M,I⟩:=bs4 ca hcl B (by omega) z hs;obtain⟨evs,sts,mj,nh,px,J,b,g1,g2,g3⟩:=N_ rest (i+1) s1 s' fs' g (by omega) (by omega) C;have m:∀k,i<=k->IT (k<i+0)=IS:=λk hk=>by simp;omega
    have f1:∀(p:Nat->Bool),p i=IN->∀t,fold p ((ev::evs).map (·.tU)) i s.get t=fold p (evs.map (·.tU)) (i+1) s1.get t:=λp hp t=>by simp only[ay,fold,hp,dn];rw[show(λl=>(ev.tU l).getD (s.get l))=s1.get from funext λt=>(E t).symm]
    have f2:∀(p:Nat->Bool),p i=IN->∀id,fold p ((ev::evs).map (·.sH)) i s.st.bT id=fold p (evs.map (·.sH)) (i+1) s1.st.bT id:=λp hp id=>by simp only[ay,fold,hp,dn];rw[show(λl=>(ev.sH l).getD (s.st.bT l))=s1.st.bT from funext λt=>(G t).symm]
    have f3:∀(p:Nat->Bool),p i=IN->fold p ((ev::evs).map λe=>λ_:Unit=>e.tk) i (λ_=>s.st.next) ()=fold p (evs.map λe=>λ_:Unit=>e.tk) (i+1) (λ_=>s1.st.next) ():=λp hp=>by simp only[ay,fold,hp,dn];rw[show(λ_:Unit=>ev.tk.getD s.st.next)=(λ_=>s1.st.next)from funext λ_=>H.symm]
    refine⟨ev::evs,s::sts,by simp[mj],by simp[nh],by simp[px],by rw[J,w],λj o' K q r h1 h2 c d=>?_,λt=>by rw[f1 _ rfl];exact g1 t,λid=>by rw[f2 _ rfl];exact g2 id,by rw[f3 _ rfl];exact g3⟩;cases j with
    |zero=>
     simp only[cX,ai]at h1 h2 c d;subst h1 h2 c d;refine⟨D,I,λhc=>?_,λt=>(Aw t _ i _ _ (λj u _ hp=>by have:=sK hp;omega) rfl).symm,λid=>(Aw id _ i _ _ (λj u _ hp=>by have:=sK hp;omega) rfl).symm,(Aw (p:=λk=>IT (k<i+0)) () _ i (λ_=>s.st.next) s.st.next (λj u _ hp=>by have:=sK hp;omega) rfl).symm⟩
     
     unfold u5 at hs;split at hs
     .cases hs;cases hc
     .split at hs
      .split at hs
       .split at hs
        .split at hs
         .split at hs
          .cases hs;cases hc
          cases hs
         cases hs
        split at hs
        .split at hs
         .cases hs;rfl
         cases hs
        cases hs
       cases hs
      split at hs
      .cases hs;cases hc
      cases hs
     cases hs
    |succ j=>
     simp only[aM]at h1 h2 c d;obtain⟨lL,fa,j7,lP,nA,lU⟩:=b j o' K q r h1 h2 c d;have hp:IT (i<i+(j+1))=IN:=by simp
     rw[show i+1+j=i+(j+1)from by omega]at lL fa lP nA lU;rw[w]at fa;exact⟨lL,fa,j7,λt=>by rw[f1 _ hp];exact lP t,λid=>by rw[f2 _ hp];exact nA id,by rw[f3 _ hp];exact lU⟩
   cases h
  cases h
end
end Go.Ab
