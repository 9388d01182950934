/- A part of the proof; its readable source lies in wip of the prover's repo (squeezed here for the limit of bytes). -/
import Derived.Calls
import Derived.Below
import Derived.Laws.Cells
import Derived.Laws.Rows
import Derived.Laws.StructEq
import Derived.Orders
import Derived.Scope
set_option linter.unusedVariables false
set_option linter.unusedSimpArgs false
set_option linter.unusedSectionVars false
namespace Go.Ab
inductive AV where
 | any
 | sc (v:Value)
 | rs (es:List (List AV))
 | rp (cs:List AV)
 | ms (id size off len:Nat)
 | mp (id i j:Nat)
 | mm (id:Nat)
 | it (id:Nat)
 | fn (f:Fn) (first cap:List AV)
 | agg (cs:List AV)
 | tup (vs:List AV)
 | sy (i:Nat)
 | ss (id size i:Nat)
 | xp (id k off:Nat)
 | rm (c:AV)
inductive l7 where
 | row (elem:TypeId) (size:Nat) (es:List (List AV))
 | map (agg:Bool) (es:List (List Int×AV×Nat)) (clock:Nat)
 | siter (s:ByteArray) (pos:Nat)
 | miter (m:Option Nat) (since:Nat) (seen:List Nat) (stepped:Nat)
 | xrow (elem:TypeId) (size i:Nat)
 | xmap (c:AV)
 | xiter (s p:AV)
 | frow (elem:TypeId) (size:Nat) (c:AV) (cols:List (Nat×TypeId×Nat)) (k:AV) (off:Nat) (v:Option AV)
structure Pl where
 block:Nat
 size:Nat
 cap:Nat
 virt:Bool:=false
structure j4 where
 w0:World
 imm:Nat->Option Obj
 pl:Nat->Option Pl
def j4.cell(G:j4)(b o:Nat):Option Value :=
 match G.imm b with
 | some (.cells cs _ _)=>cs[o]?
 | _=>none
structure j4.le(G G':j4):Prop where
 w0:G'.w0=G.w0
 imm:∀ b o,G.imm b=some o->G'.imm b=some o
 pl:∀ i p,G.pl i=some p->G'.pl i=some p
theorem j4.le.refl(G:j4):G.le G:=⟨rfl,fun _ _ h=>h,fun _ _ h=>h⟩
theorem j4.le.trans{A B C:j4}(h:A.le B)(k:B.le C):A.le C :=
 ⟨k.w0.trans h.w0,fun b o x=>k.imm b o (h.imm b o x),fun i p x=>k.pl i p (h.pl i p x)⟩
theorem j4.le.cell{G G':j4}(h:G.le G'){b o:Nat}{v:Value}(hc:G.cell b o=some v):G'.cell b o=some v:=by
 unfold j4.cell at *
 cases hb:G.imm b with
 | none=>simp[hb]at hc
 | some x=>rw[h.imm b x hb];simpa[hb]using hc
def B6(agg:Bool)(l:List Int):Value :=
 if agg then .agg (l.map (Value.int .i64)).toArray else .int .i64 (l.headD 0)
def AV.i64s:List AV->Option (List Int)
 | []=>some []
 | .sc (.int .i64 n)::cs=>match AV.i64s cs with
  | some l=>some (n::l)
  | none=>none
 | _::_=>none
def AV.key:AV->Option (Bool×List Int)
 | .sc (.int .i64 n)=>some (false,[n])
 | .agg cs=>match AV.i64s cs with
  | some l=>some (true,l)
  | none=>none
 | _=>none
def D5(j:Nat):List AV->List Int×AV×Nat
 | [k,v]=>(match k.key with | some (_,l)=>l | none=>[0],v,j)
 | _=>([0],.sc (.bool false),j)
def w8:Nat->List (List AV)->List (List Int×AV×Nat)
 | _,[]=>[]
 | j,r::rs=>D5 j r::w8 (j+1) rs
def aK0:List (List AV)->Bool
 | [k,_]::_=>match k.key with
  | some (b,_)=>b
  | none=>false
 | _=>false
inductive Rep (G:j4):AV->Value->Prop
 | any (v:Value):Rep G .any v
 | sc (v:Value):Rep G (.sc v) v
 | rsNil:Rep G (.rs []) (.slice none 0 0)
 | rs (es:List (List AV)) (a:Addr) (cap size:Nat) (val:Nat->Nat->Value) (hs:cap≠0->a.spot=none) (hc:es.length<=cap)
   (hlen:∀ i (h:i<es.length),es[i].length=size)
   (himm:∀ i j,i<es.length->j<size->G.cell a.block (a.off+i*size+j)=some (val i j))
   (hrep:∀ i j (hi:i<es.length) (hj:j<es[i].length),Rep G (es[i][j]) (val i j)):Rep G (.rs es) (.slice (some a) es.length cap)
 | rp (cs:List AV) (a:Addr) (val:Nat->Value) (hs:a.spot=none)
   (himm:∀ j,j<cs.length->G.cell a.block (a.off+j)=some (val j))
   (hrep:∀ j (hj:j<cs.length),Rep G (cs[j]) (val j)):Rep G (.rp cs) (.pointer (some a))
 | ms (id size off len:Nat) (p:Pl) (hp:G.pl id=some p) (hv:p.virt=false) (hz:p.size=size) (a:Addr) (c:Nat) (ha:c≠0->a=⟨p.block,off*p.size,none⟩) (hoff:off+c=p.cap) (hl:len<=c) (hsp:a.spot=none) :
   Rep G (.ms id size off len) (.slice (some a) len c)
 | msNil (id size:Nat) (p:Pl) (hp:G.pl id=some p) (hv:p.virt=true):Rep G (.ms id size 0 0) (.slice none 0 0)
 | mp (id i j:Nat) (p:Pl) (hp:G.pl id=some p):Rep G (.mp id i j) (.pointer (some ⟨p.block,i*p.size+j,none⟩))
 | mm (id:Nat) (p:Pl) (hp:G.pl id=some p):Rep G (.mm id) (.map (some p.block))
 | it (id:Nat) (p:Pl) (hp:G.pl id=some p):Rep G (.it id) (.pointer (some ⟨p.block,0,none⟩))
 | rm (rows:List (List AV)) (b:Nat) (ents:List MapEntry) (himm:G.imm b=some (.map ents.toArray rows.length)) (hlen:ents.length=rows.length)
   (ij0:∀ i (h:i<rows.length) (h':i<ents.length),ents[i].key=B6 (aK0 rows) (D5 i rows[i]).1/\ents[i].born=i)
   (hrep:∀ i (h:i<rows.length) (h':i<ents.length),Rep G (D5 i rows[i]).2.1 ents[i].val):Rep G (.rm (.rs rows)) (.map (some b))
 | fn (f:Fn) (first cap:List AV) (fv cv:List Value) (h1:fv.length=first.length) (h2:cv.length=cap.length)
   (hf:∀ i (h:i<first.length) (h':i<fv.length),Rep G first[i] fv[i]) (hc:∀ i (h:i<cap.length) (h':i<cv.length),Rep G cap[i] cv[i]) :
   Rep G (.fn f first cap) (.func f fv.toArray cv.toArray)
 | agg (cs:List AV) (vs:List Value) (h1:vs.length=cs.length) (h:∀ i (h:i<cs.length) (h':i<vs.length),Rep G cs[i] vs[i]):Rep G (.agg cs) (.agg vs.toArray)
 | tup (cs:List AV) (vs:List Value) (h1:vs.length=cs.length) (h:∀ i (h:i<cs.length) (h':i<vs.length),Rep G cs[i] vs[i]):Rep G (.tup cs) (.tuple vs.toArray)
def B7(G:j4)(cs:List AV)(vs:List Value):Prop:=vs.length=cs.length/\∀ i (h:i<cs.length) (h':i<vs.length),Rep G cs[i] vs[i]
theorem B7.nil(G:j4):B7 G [] []:=⟨rfl,fun i h=>by simp at h⟩
theorem B7.cons{G:j4}{c:AV}{v:Value}{cs:List AV}{vs:List Value}(h:Rep G c v)(hs:B7 G cs vs):B7 G (c::cs) (v::vs):=by
 refine⟨by simp[hs.1],fun i h1 h2=>?_⟩
 cases i with
 | zero=>exact h
 | succ i=>exact hs.2 i (by simpa using h1) (by simpa using h2)
theorem B7.nil_inv{G:j4}{vs:List Value}(h:B7 G [] vs):vs=[]:=by have:=h.1;simpa using this
theorem B7.cons_inv{G:j4}{c:AV}{cs:List AV}{vs:List Value}(h:B7 G (c::cs) vs):∃ v vs',vs=v::vs'/\Rep G c v/\B7 G cs vs':=by
 cases vs with
 | nil=>have:=h.1;simp at this
 | cons v vs =>
  refine⟨v,vs,rfl,h.2 0 (by simp) (by simp),by have:=h.1;simpa using this,fun i h1 h2=>?_⟩
  have:=h.2 (i+1) (by simpa using h1) (by simpa using h2)
  simpa using this
theorem B7.append{G:j4}{cs ds:List AV}{vs us:List Value}(h:B7 G cs vs)(k:B7 G ds us):B7 G (cs++ds) (vs++us):=by
 induction cs generalizing vs with
 | nil=>rw[h.nil_inv];simpa using k
 | cons c cs ih=>obtain⟨v,vs',rfl,h1,h2⟩:=h.cons_inv;exact(ih h2).cons h1
theorem B7.get{G:j4}{cs:List AV}{vs:List Value}(h:B7 G cs vs){i:Nat}{c:AV}(hi:cs[i]?=some c):∃ v,vs[i]?=some v/\Rep G c v:=by
 obtain⟨h0,rfl⟩:=List.getElem?_eq_some_iff.1 hi
 exact⟨vs[i]'(by rw[h.1];exact h0),List.getElem?_eq_getElem _,h.2 i h0 (by rw[h.1];exact h0)⟩
theorem B7.drop{G:j4}{cs:List AV}{vs:List Value}(h:B7 G cs vs)(n:Nat):B7 G (cs.drop n) (vs.drop n):=by
 refine⟨by simp[h.1],fun i h1 h2=>?_⟩
 have:=h.2 (n+i) (by simp at h1;omega) (by simp at h2;omega)
 simpa using this
theorem B7.take{G:j4}{cs:List AV}{vs:List Value}(h:B7 G cs vs)(n:Nat):B7 G (cs.take n) (vs.take n):=by
 refine⟨by simp[h.1],fun i h1 h2=>?_⟩
 have:=h.2 i (by simp at h1;omega) (by simp at h2;omega)
 simpa using this
theorem Rep.mono{G G':j4}(hG:G.le G'){c:AV}{v:Value}(h:Rep G c v):Rep G' c v:=by
 induction h with
 | any v=>exact .any v
 | sc v=>exact .sc v
 | rsNil=>exact .rsNil
 | rs es a cap size val hs hc hlen himm _ ih=>exact .rs es a cap size val hs hc hlen (fun i j h1 h2=>hG.cell (himm i j h1 h2)) ih
 | rp cs a val hs himm _ ih=>exact .rp cs a val hs (fun j h=>hG.cell (himm j h)) ih
 | ms id size off len p hp hv hz a c ha ho hl hsp=>exact .ms id size off len p (hG.pl _ _ hp) hv hz a c ha ho hl hsp
 | msNil id size p hp hv=>exact .msNil id size p (hG.pl _ _ hp) hv
 | mp id i j p hp=>exact .mp id i j p (hG.pl _ _ hp)
 | mm id p hp=>exact .mm id p (hG.pl _ _ hp)
 | it id p hp=>exact .it id p (hG.pl _ _ hp)
 | rm rows b ents himm hlen ij0 _ ih=>exact .rm rows b ents (hG.imm _ _ himm) hlen ij0 ih
 | fn f first cap fv cv h1 h2 _ _ ih1 ih2=>exact .fn f first cap fv cv h1 h2 ih1 ih2
 | agg cs vs h1 _ ih=>exact .agg cs vs h1 ih
 | tup cs vs h1 _ ih=>exact .tup cs vs h1 ih
theorem B7.mono{G G':j4}(hG:G.le G'){cs:List AV}{vs:List Value}(h:B7 G cs vs):B7 G' cs vs:=⟨h.1,fun i h1 h2=>(h.2 i h1 h2).mono hG⟩
inductive Tr (α:Type) where
 | leaf
 | node (v:Option α) (l r:Tr α)
def Tr.get{α:Type}:Tr α->Nat->Option α
 | .leaf,_=>none
 | .node v _ _,0=>v
 | .node _ l r,k+1=>match k%2 with
  | 0=>l.get (k / 2)
  | _=>r.get (k / 2)
def Tr.setF{α:Type}(v:Option α):Nat->Nat->Tr α->Tr α
 | _,0,.leaf=>.node v .leaf .leaf
 | _,0,.node _ l r=>.node v l r
 | 0,_+1,t=>t
 | f+1,k+1,.leaf=>match k%2 with
  | 0=>.node none (setF v f (k / 2) .leaf) .leaf
  | _=>.node none .leaf (setF v f (k / 2) .leaf)
 | f+1,k+1,.node x l r=>match k%2 with
  | 0=>.node x (setF v f (k / 2) l) r
  | _=>.node x l (setF v f (k / 2) r)
def Tr.set{α:Type}(t:Tr α)(k:Nat)(v:Option α):Tr α:=Tr.setF v k k t
theorem Tr.get_leaf{α:Type}(i:Nat):(Tr.leaf:Tr α).get i=none:=by cases i<;>rfl
theorem Tr.get_setF{α:Type}(v:Option α):∀ (f k:Nat) (t:Tr α) (i:Nat),k<=f->(Tr.setF v f k t).get i=if i=k then v else t.get i
 | f,0,.leaf,i,_=>by
  cases i with
  | zero=>cases f<;>rfl
  | succ i =>
   have:(Tr.setF v f 0 (.leaf:Tr α))=.node v .leaf .leaf:=by cases f<;>rfl
   rw[this,if_neg (by omega)]
   simp only[Tr.get]
   split<;>simp[Tr.get_leaf]
 | f,0,.node x l r,i,_=>by
  have:(Tr.setF v f 0 (.node x l r))=.node v l r:=by cases f<;>rfl
  rw[this]
  cases i with
  | zero=>rfl
  | succ i=>rw[if_neg (by omega)];rfl
 | 0,k+1,t,i,h=>by omega
 | f+1,k+1,.leaf,i,h=>by
  cases i with
  | zero =>
   rw[if_neg (by omega)]
   simp only[Tr.setF]
   split<;>rfl
  | succ i =>
   simp only[Tr.setF]
   have hk:k / 2<=f:=by omega
   split
   ·rename_i e1
    simp only[Tr.get]
    split
    ·rename_i e2
     rw[Tr.get_setF v f (k / 2) .leaf (i / 2) hk]
     by_cases e:i=k
     ·subst e;simp
     ·rw[if_neg (by omega),if_neg (by omega)];simp[Tr.get_leaf]
    ·rename_i e2
     replace e2:¬ i%2=0:=e2
     rw[if_neg (by omega)]
   ·rename_i e1
    replace e1:¬ k%2=0:=e1
    simp only[Tr.get]
    split
    ·rename_i e2
     rw[if_neg (by omega)]
    ·rename_i e2
     replace e2:¬ i%2=0:=e2
     rw[Tr.get_setF v f (k / 2) .leaf (i / 2) hk]
     by_cases e:i=k
     ·subst e;simp
     ·rw[if_neg (by omega),if_neg (by omega)];simp[Tr.get_leaf]
 | f+1,k+1,.node x l r,i,h=>by
  cases i with
  | zero =>
   rw[if_neg (by omega)]
   simp only[Tr.setF]
   split<;>rfl
  | succ i =>
   simp only[Tr.setF]
   have hk:k / 2<=f:=by omega
   split
   ·rename_i e1
    simp only[Tr.get]
    split
    ·rename_i e2
     rw[Tr.get_setF v f (k / 2) l (i / 2) hk]
     by_cases e:i=k
     ·subst e;simp
     ·rw[if_neg (by omega),if_neg (by omega)]
    ·rename_i e2
     replace e2:¬ i%2=0:=e2
     rw[if_neg (by omega)]
   ·rename_i e1
    replace e1:¬ k%2=0:=e1
    simp only[Tr.get]
    split
    ·rename_i e2
     rw[if_neg (by omega)]
    ·rename_i e2
     replace e2:¬ i%2=0:=e2
     rw[Tr.get_setF v f (k / 2) r (i / 2) hk]
     by_cases e:i=k
     ·subst e;simp
     ·rw[if_neg (by omega),if_neg (by omega)]
theorem Tr.get_set{α:Type}(t:Tr α)(k:Nat)(v:Option α)(i:Nat):(t.set k v).get i=if i=k then v else t.get i:=Tr.get_setF v k k t i (Nat.le_refl _)
structure c9 where
 next:Nat
 tr:Tr l7
 low:Nat:=0
def c9.objs(σ:c9)(i:Nat):Option l7:=σ.tr.get i
def N2(G:j4)(p:Pl):l7->Option Obj->Prop
 | .row elem size es,ho=>∃ cs:Array Value,ho=some (.cells cs elem (0,0))/\p.size=size/\cs.size=p.cap*size/\es.length<=p.cap /\
   ∀ i (h:i<es.length),es[i].length=size/\∀ j (hj:j<es[i].length) (h':i*size+j<cs.size),Rep G es[i][j] cs[i*size+j]
 | .map agg es clock,ho=>∃ ents:Array MapEntry,ho=some (.map ents clock)/\ents.size=es.length /\
   ∀ i (h:i<es.length) (h':i<ents.size),ents[i].key=B6 agg es[i].1/\Rep G es[i].2.1 ents[i].val/\ents[i].born=es[i].2.2
 | .siter s pos,ho=>ho=some (.stringIter s pos)
 | .xrow _ _ _,_=>False
 | .xmap _,_=>False
 | .frow ..,_=>False
 | .xiter _ _,_=>False
 | .miter m since seen stepped,ho=>∃ m',ho=some (.mapIter m' since seen.toArray stepped) /\
   (match m with | none=>m'=none | some id=>∃ p,G.pl id=some p/\m'=some p.block)
theorem N2.mono{G G':j4}(hG:G.le G'){p:Pl}{o:l7}{ho:Option Obj}(h:N2 G p o ho):N2 G' p o ho:=by
 cases o with
 | row elem size es =>
  obtain⟨cs,h1,h2,h3,h4,h5⟩:=h
  exact⟨cs,h1,h2,h3,h4,fun i hi=>⟨(h5 i hi).1,fun j hj h'=>((h5 i hi).2 j hj h').mono hG⟩⟩
 | map agg es clock =>
  obtain⟨ents,h1,h2,h3⟩:=h
  exact⟨ents,h1,h2,fun i hi h'=>⟨(h3 i hi h').1,(h3 i hi h').2.1.mono hG,(h3 i hi h').2.2⟩⟩
 | siter s pos=>exact h
 | xrow e s i=>exact h
 | xmap c=>exact h
 | frow=>exact h
 | xiter s p=>exact h
 | miter m since seen stepped =>
  obtain⟨m',h1,h2⟩:=h
  refine⟨m',h1,?_⟩
  cases m with
  | none=>exact h2
  | some id=>obtain⟨p,hp,e⟩:=h2;exact⟨p,hG.pl _ _ hp,e⟩
theorem N2.isSome{G:j4}{p:Pl}{o:l7}{ho:Option Obj}(h:N2 G p o ho):ho.isSome=true:=by
 cases o with
 | row elem size es=>obtain⟨cs,h1,_⟩:=h;simp[h1]
 | map agg es clock=>obtain⟨ents,h1,_⟩:=h;simp[h1]
 | siter s pos=>simp only[N2]at h;simp[h]
 | xrow e s i=>exact h.elim
 | xmap c=>exact h.elim
 | frow=>exact h.elim
 | xiter s p=>exact h.elim
 | miter m since seen stepped=>obtain⟨m',h1,_⟩:=h;simp[h1]
def Lies(G:j4)(w:World)(p:Pl)(o:l7):Prop :=
 (p.virt=true/\∃ e s,o=.row e s [])\/(p.virt=false/\G.imm p.block=none/\G.w0.heap.size<=p.block/\N2 G p o w.heap[p.block]?)
class B0 where
 cell:Nat->Nat->Option Value
variable [B0]
structure Rel(G:j4)(σ:c9)(w:World):Prop where
 os:w.os=G.w0.os
 tape:w.tape=G.w0.tape
 output:w.output=G.w0.output
 size:G.w0.heap.size<=w.heap.size
 imm:∀ b o,G.imm b=some o->w.heap[b]?=some o
 fresh:∀ id,σ.next<=id->G.pl id=none
 objs:∀ id o,σ.objs id=some o->∃ p,G.pl id=some p/\Lies G w p o
 sep:∀ i j oi oj pi pj,σ.objs i=some oi->σ.objs j=some oj->G.pl i=some pi->G.pl j=some pj->pi.virt=false->pj.virt=false->pi.block=pj.block->i=j
 glob:∀ b o v,B0.cell b o=some v->G.cell b o=some v
theorem Rel.lt{G:j4}{σ:c9}{w:World}(h:Rel G σ w){b:Nat}{o:Obj}(hb:G.imm b=some o):b<w.heap.size:=by
 have:=h.imm b o hb
 rcases Nat.lt_or_ge b w.heap.size with h' | h'
 ·exact h'
 ·rw[Array.getElem?_eq_none h']at this;cases this
theorem Rel.lies{G:j4}{σ:c9}{w:World}(h:Rel G σ w){id:Nat}{o:l7}{p:Pl}(ho:σ.objs id=some o)(hp:G.pl id=some p):Lies G w p o:=by
 obtain⟨p',hp',hl⟩:=h.objs id o ho
 rw[hp]at hp';cases hp'
 exact hl
theorem Rel.real{G:j4}{σ:c9}{w:World}(h:Rel G σ w){id:Nat}{o:l7}{p:Pl}(ho:σ.objs id=some o)(hp:G.pl id=some p)(hv:p.virt=false) :
  G.imm p.block=none/\G.w0.heap.size<=p.block/\N2 G p o w.heap[p.block]?:=by
 rcases h.lies ho hp with ⟨h1,_⟩ | ⟨_,h2⟩
 ·rw[hv]at h1;cases h1
 ·exact h2
theorem Rel.obj_lt{G:j4}{σ:c9}{w:World}(h:Rel G σ w){id:Nat}{o:l7}{p:Pl}(ho:σ.objs id=some o)(hp:G.pl id=some p)(hv:p.virt=false):p.block<w.heap.size:=by
 have:=(h.real ho hp hv).2.2.isSome
 rcases Nat.lt_or_ge p.block w.heap.size with h' | h'
 ·exact h'
 ·rw[Array.getElem?_eq_none h']at this;cases this
theorem Rel.id_lt{G:j4}{σ:c9}{w:World}(h:Rel G σ w){id:Nat}{p:Pl}(hp:G.pl id=some p):id<σ.next:=by
 rcases Nat.lt_or_ge id σ.next with h' | h'
 ·exact h'
 ·rw[h.fresh id h']at hp;cases hp
theorem Rel.cell{G:j4}{σ:c9}{w:World}(h:Rel G σ w){b o:Nat}{v:Value}(hc:G.cell b o=some v):w.cell? ⟨b,o,none⟩=some v:=by
 unfold j4.cell at hc
 cases hb:G.imm b with
 | none=>simp[hb]at hc
 | some x =>
  have:=h.imm b x hb
  simp only[hb]at hc
  cases x<;>simp at hc
  simp[World.cell?,this,hc]
theorem Rel.drawn{G:j4}{σ:c9}{w:World}(h:Rel G σ w)(n:Nat):Rel G σ { w with drawn:=n } :=
 ⟨h.os,h.tape,h.output,h.size,h.imm,h.fresh,h.objs,h.sep,h.glob⟩
theorem Rel.less{G:j4}{σ σ':c9}{w:World}(h:Rel G σ w)(hn:σ'.next=σ.next)(hf:∀ i o,σ'.objs i=some o->σ.objs i=some o):Rel G σ' w :=
 ⟨h.os,h.tape,h.output,h.size,h.imm,by rw[hn];exact h.fresh,fun id o ho=>h.objs id o (hf _ _ ho),fun i j oi oj pi pj h1 h2=>h.sep i j oi oj pi pj (hf _ _ h1) (hf _ _ h2),h.glob⟩
theorem Rel.next{G:j4}{σ:c9}{w:World}(h:Rel G σ w){n:Nat}(hn:σ.next<=n):Rel G { σ with next:=n } w :=
 ⟨h.os,h.tape,h.output,h.size,h.imm,fun id hid=>h.fresh id (Nat.le_trans hn hid),h.objs,h.sep,h.glob⟩
def j4.place(G:j4)(id:Nat)(p:Pl):j4:={ G with pl:=fun i=>if i=id then some p else G.pl i }
theorem j4.place_le{G:j4}{id:Nat}{p:Pl}(h:G.pl id=none):G.le (G.place id p) :=
 ⟨rfl,fun _ _ h=>h,fun i q hq=>by
  simp only[j4.place]
  split
  ·rename_i e;subst e;rw[h]at hq;cases hq
  ·exact hq⟩
theorem j4.place_same(G:j4)(id:Nat)(p:Pl):(G.place id p).pl id=some p:=by simp[j4.place]
def c9.set(σ:c9)(id:Nat)(o:l7):c9:={ σ with tr:=σ.tr.set id (some o),low:=min σ.low id }
def c9.del(σ:c9)(id:Nat):c9:={ σ with tr:=σ.tr.set id none,low:=min σ.low id }
theorem c9.objs_set(σ:c9)(id:Nat)(o:l7)(i:Nat):(σ.set id o).objs i=if i=id then some o else σ.objs i:=Tr.get_set _ _ _ _
theorem c9.objs_del(σ:c9)(id:Nat)(i:Nat):(σ.del id).objs i=if i=id then none else σ.objs i:=Tr.get_set _ _ _ _
@[simp] theorem c9.set_next (σ:c9) (id:Nat) (o:l7):(σ.set id o).next=σ.next:=rfl
@[simp] theorem c9.del_next (σ:c9) (id:Nat):(σ.del id).next=σ.next:=rfl
structure Fr(G:j4)(σ:c9)(w:World)(G':j4)(σ':c9)(w':World):Prop where
 size:w.heap.size<=w'.heap.size
 same:∀ b,b<w.heap.size->(∀ id o p,σ.objs id=some o->G.pl id=some p->p.virt=false->p.block≠b)->w'.heap[b]?=w.heap[b]?
 live:∀ id o p,σ'.objs id=some o->G'.pl id=some p->p.virt=false->p.block<w.heap.size->∃ id0 o0 p0,σ.objs id0=some o0/\G.pl id0=some p0/\p0.virt=false/\p0.block=p.block
 imm:∀ b o,G'.imm b=some o->G.imm b=some o\/w.heap.size<=b\/∃ id0 o0 p0,σ.objs id0=some o0/\G.pl id0=some p0/\p0.virt=false/\p0.block=b
 drawn:w.drawn<=w'.drawn
theorem Fr.refl(G:j4)(σ:c9)(w:World):Fr G σ w G σ w :=
 ⟨Nat.le_refl _,fun _ _ _=>rfl,fun id o p h1 h2 h3 _=>⟨id,o,p,h1,h2,h3,rfl⟩,fun _ _ h=>.inl h,Nat.le_refl _⟩
theorem Fr.trans{G1 G2 G3:j4}{σ1 σ2 σ3:c9}{w1 w2 w3:World}(h:Fr G1 σ1 w1 G2 σ2 w2)(k:Fr G2 σ2 w2 G3 σ3 w3):Fr G1 σ1 w1 G3 σ3 w3:=by
 refine⟨Nat.le_trans h.size k.size,fun b hb hn=>?_,fun id o p h1 h2 h3 h4=>?_,fun b o hb=>?_,Nat.le_trans h.drawn k.drawn⟩
 ·have hs:=h.size
  rw[k.same b (by omega) (fun id o p q1 q2 q3 q4=>?_),h.same b hb hn]
  obtain⟨id0,o0,p0,r1,r2,r3,r4⟩:=h.live id o p q1 q2 q3 (by omega)
  exact hn id0 o0 p0 r1 r2 r3 (by omega)
 ·have hs:=h.size
  obtain⟨id0,o0,p0,r1,r2,r3,r4⟩:=k.live id o p h1 h2 h3 (by omega)
  obtain⟨id1,o1,p1,t1,t2,t3,t4⟩:=h.live id0 o0 p0 r1 r2 r3 (by omega)
  exact⟨id1,o1,p1,t1,t2,t3,by omega⟩
 ·have hs:=h.size
  rcases k.imm b o hb with h1 | h1 | ⟨id0,o0,p0,r1,r2,r3,r4⟩
  ·exact h.imm b o h1
  ·exact .inr (.inl (by omega))
  ·rcases Nat.lt_or_ge b w1.heap.size with hlt | hge
   ·obtain⟨id1,o1,p1,t1,t2,t3,t4⟩:=h.live id0 o0 p0 r1 r2 r3 (by omega)
    exact .inr (.inr ⟨id1,o1,p1,t1,t2,t3,by omega⟩)
   ·exact .inr (.inl hge)
theorem Fr.less{G:j4}{σ σ':c9}{w:World}(hf:∀ i o,σ'.objs i=some o->σ.objs i=some o):Fr G σ w G σ' w :=
 ⟨Nat.le_refl _,fun _ _ _=>rfl,fun id o p h1 h2 h3 _=>⟨id,o,p,hf _ _ h1,h2,h3,rfl⟩,fun _ _ h=>.inl h,Nat.le_refl _⟩
theorem Fr.draws(G:j4)(σ:c9)(w:World)(n:Nat)(hn:w.drawn<=n):Fr G σ w G σ { w with drawn:=n } :=
 ⟨Nat.le_refl _,fun _ _ _=>rfl,fun id o p h1 h2 h3 _=>⟨id,o,p,h1,h2,h3,rfl⟩,fun _ _ h=>.inl h,hn⟩
theorem Fr.push{G:j4}{σ:c9}{w:World}(obj:Obj)(id:Nat)(hid:G.pl id=none)(p:Pl)(hp:p.virt=false->p.block=w.heap.size)(o:l7)(n:Nat)(hn:w.drawn<=n:=by first | exact Nat.le_refl _ | exact Nat.le_add_right _ _) :
  Fr G σ w (G.place id p) (σ.set id o) { w with drawn:=n,heap:=w.heap.push obj }:=by
 refine⟨by simp,fun b hb _=>?_,fun i x q h1 h2 h3 h4=>?_,fun _ _ h=>.inl h,hn⟩
 ·show (w.heap.push obj)[b]?=_
  rw[Array.getElem?_push,if_neg (by omega)]
 ·by_cases e:i=id
  ·subst e
   rw[j4.place_same]at h2;cases h2
   have:=hp h3;omega
  ·exact⟨i,x,q,by simpa[c9.objs_set,e]using h1,by simpa[j4.place,e]using h2,h3,rfl⟩
theorem Fr.virt{G:j4}{σ:c9}{w:World}(id:Nat)(p:Pl)(hp:p.virt=true)(o:l7):Fr G σ w (G.place id p) (σ.set id o) w:=by
 refine⟨Nat.le_refl _,fun _ _ _=>rfl,fun i x q h1 h2 h3 h4=>?_,fun _ _ h=>.inl h,Nat.le_refl _⟩
 by_cases e:i=id
 ·subst e
  rw[j4.place_same]at h2;cases h2
  rw[hp]at h3;cases h3
 ·exact⟨i,x,q,by simpa[c9.objs_set,e]using h1,by simpa[j4.place,e]using h2,h3,rfl⟩
theorem Fr.write{G:j4}{σ:c9}{w:World}{id:Nat}{o o':l7}{p:Pl}(ho:σ.objs id=some o)(hp:G.pl id=some p)(hv:p.virt=false)(w':World)(hsize:w'.heap.size=w.heap.size)
  (hoth:∀ k,k≠p.block->w'.heap[k]?=w.heap[k]?) (hd:w.drawn<=w'.drawn:=by exact Nat.le_refl _):Fr G σ w G (σ.set id o') w':=by
 refine⟨by omega,fun b hb hn=>hoth b (fun e=>hn id o p ho hp hv e.symm),fun i x q h1 h2 h3 h4=>?_,fun _ _ h=>.inl h,hd⟩
 by_cases e:i=id
 ·subst e
  exact⟨i,o,q,ho,h2,h3,rfl⟩
 ·exact⟨i,x,q,by simpa[c9.objs_set,e]using h1,h2,h3,rfl⟩
theorem Fr.move{G:j4}{σ:c9}{w:World}{id id':Nat}{o o':l7}{p:Pl}(ho:σ.objs id=some o)(hp:G.pl id=some p):Fr G σ w (G.place id' p) ((σ.del id).set id' o') w:=by
 refine⟨Nat.le_refl _,fun _ _ _=>rfl,fun i x q h1 h2 h3 h4=>?_,fun _ _ h=>.inl h,Nat.le_refl _⟩
 by_cases e:i=id'
 ·subst e
  rw[j4.place_same]at h2;cases h2
  exact⟨id,o,p,ho,hp,h3,rfl⟩
 ·rw[c9.objs_set,if_neg e,c9.objs_del]at h1
  split at h1
  ·cases h1
  ·exact⟨i,x,q,h1,by simpa[j4.place,e]using h2,h3,rfl⟩
theorem Rel.push{G:j4}{σ:c9}{w:World}(h:Rel G σ w)(obj:Obj)(id:Nat)(hid:G.pl id=none)(hlt:id<σ.next)(p:Pl)(hp:p.block=w.heap.size)(hv:p.virt=false)(o:l7)
  (hok:N2 (G.place id p) p o (some obj)):Rel (G.place id p) (σ.set id o) { w with heap:=w.heap.push obj }:=by
 have hle:G.le (G.place id p):=j4.place_le hid
 have old:∀ k,k<w.heap.size->(w.heap.push obj)[k]?=w.heap[k]?:=fun k hk=>by rw[Array.getElem?_push,if_neg (by omega)]
 have hne:∀ i q,i≠id->(G.place id p).pl i=some q->G.pl i=some q:=fun i q hi hq=>by simpa[j4.place,hi]using hq
 refine⟨h.os,h.tape,h.output,Nat.le_trans h.size (by simp),fun b x hb=>?_,fun i hi=>?_,fun i x hx=>?_,fun i j oi oj pi pj h1 h2 h3 h4 v1 v2 h5=>?_,h.glob⟩
 ·show (w.heap.push obj)[b]?=_
  rw[old b (h.lt hb)];exact h.imm b x hb
 ·have:i≠id:=by simp at hi;omega
  simp only[j4.place,this,if_false];exact h.fresh i hi
 ·by_cases e:i=id
  ·subst e
   simp[c9.objs_set]at hx;subst hx
   refine⟨p,j4.place_same _ _ _,.inr ⟨hv,?_,by rw[hp];exact h.size,?_⟩⟩
   ·show G.imm p.block=none
    cases hb:G.imm p.block with
    | none=>rfl
    | some y=>have:=h.lt hb;omega
   ·show N2 _ p o (w.heap.push obj)[p.block]?
    rw[hp,Array.getElem?_push,if_pos rfl];exact hok
  ·simp[c9.objs_set,e]at hx
   obtain⟨q,hq,hl⟩:=h.objs i x hx
   refine⟨q,hle.pl _ _ hq,?_⟩
   rcases hl with hl | ⟨hv',hi1,hi2,hi3⟩
   ·exact .inl hl
   ·refine .inr ⟨hv',hi1,hi2,?_⟩
    show N2 _ q x (w.heap.push obj)[q.block]?
    rw[old _ (h.obj_lt hx hq hv')];exact hi3.mono hle
 ·have aux:∀ i x q,i≠id->(σ.set id o).objs i=some x->(G.place id p).pl i=some q->q.virt=false->σ.objs i=some x/\G.pl i=some q/\q.block<w.heap.size:=fun i x q hi hx hq hv=>by
   have h1:σ.objs i=some x:=by simpa[c9.objs_set,hi]using hx
   have h2:=hne i q hi hq
   exact⟨h1,h2,h.obj_lt h1 h2 hv⟩
  by_cases e1:i=id<;>by_cases e2:j=id
  ·rw[e1,e2]
  ·subst e1
   rw[j4.place_same]at h3;cases h3
   have:=(aux j oj pj e2 h2 h4 v2).2.2;omega
  ·subst e2
   rw[j4.place_same]at h4;cases h4
   have:=(aux i oi pi e1 h1 h3 v1).2.2;omega
  ·have a1:=aux i oi pi e1 h1 h3 v1
   have a2:=aux j oj pj e2 h2 h4 v2
   exact h.sep i j oi oj pi pj a1.1 a2.1 a1.2.1 a2.2.1 v1 v2 h5
theorem Rel.virt{G:j4}{σ:c9}{w:World}(h:Rel G σ w)(id:Nat)(hid:G.pl id=none)(hlt:id<σ.next)(p:Pl)(hv:p.virt=true)(e:TypeId)(s:Nat) :
  Rel (G.place id p) (σ.set id (.row e s [])) w:=by
 have hle:G.le (G.place id p):=j4.place_le hid
 have hne:∀ i q,i≠id->(G.place id p).pl i=some q->G.pl i=some q:=fun i q hi hq=>by simpa[j4.place,hi]using hq
 refine⟨h.os,h.tape,h.output,h.size,h.imm,fun i hi=>?_,fun i x hx=>?_,fun i j oi oj pi pj h1 h2 h3 h4 v1 v2 h5=>?_,h.glob⟩
 ·have:i≠id:=by simp at hi;omega
  simp only[j4.place,this,if_false];exact h.fresh i hi
 ·by_cases e':i=id
  ·subst e'
   simp[c9.objs_set]at hx;subst hx
   exact⟨p,j4.place_same _ _ _,.inl ⟨hv,e,s,rfl⟩⟩
  ·simp[c9.objs_set,e']at hx
   obtain⟨q,hq,hl⟩:=h.objs i x hx
   refine⟨q,hle.pl _ _ hq,?_⟩
   rcases hl with hl | ⟨hv',hi1,hi2,hi3⟩
   ·exact .inl hl
   ·exact .inr ⟨hv',hi1,hi2,hi3.mono hle⟩
 ·have n1:i≠id:=fun e=>by subst e;rw[j4.place_same]at h3;cases h3;rw[hv]at v1;cases v1
  have n2:j≠id:=fun e=>by subst e;rw[j4.place_same]at h4;cases h4;rw[hv]at v2;cases v2
  exact h.sep i j oi oj pi pj (by simpa[c9.objs_set,n1]using h1) (by simpa[c9.objs_set,n2]using h2) (hne _ _ n1 h3) (hne _ _ n2 h4) v1 v2 h5
theorem Rel.write{G:j4}{σ:c9}{w:World}(h:Rel G σ w){id:Nat}{o o':l7}{p:Pl}(ho:σ.objs id=some o)(hp:G.pl id=some p)(hv:p.virt=false)(obj:Obj)(w':World)
  (hos:w'.os=w.os) (htape:w'.tape=w.tape) (hout:w'.output=w.output) (hsize:w'.heap.size=w.heap.size)
  (hoth:∀ k,k≠p.block->w'.heap[k]?=w.heap[k]?) (hnew:w'.heap[p.block]?=some obj) (hok:N2 G p o' (some obj)):Rel G (σ.set id o') w':=by
 obtain⟨him,hw0,_⟩:=h.real ho hp hv
 refine⟨hos.trans h.os,htape.trans h.tape,hout.trans h.output,by rw[hsize];exact h.size,fun b x hb=>?_,h.fresh,fun i x hx=>?_,fun i j oi oj pi pj h1 h2 h3 h4 v1 v2 h5=>?_,h.glob⟩
 ·rw[hoth b (fun e=>by rw[e,him]at hb;cases hb)];exact h.imm b x hb
 ·by_cases e:i=id
  ·subst e
   simp[c9.objs_set]at hx;subst hx
   exact⟨p,hp,.inr ⟨hv,him,hw0,by rw[hnew];exact hok⟩⟩
  ·simp[c9.objs_set,e]at hx
   obtain⟨q,hq,hl⟩:=h.objs i x hx
   refine⟨q,hq,?_⟩
   rcases hl with hl | ⟨hv',hi1,hi2,hi3⟩
   ·exact .inl hl
   ·refine .inr ⟨hv',hi1,hi2,?_⟩
    rw[hoth q.block (fun e'=>e (h.sep i id x o q p hx ho hq hp hv' hv e'))];exact hi3
 ·have aux:∀ i x,(σ.set id o').objs i=some x->∃ y,σ.objs i=some y:=fun i x hx=>by
   by_cases e:i=id
   ·exact⟨o,by rw[e];exact ho⟩
   ·exact⟨x,by simpa[c9.objs_set,e]using hx⟩
  obtain⟨y1,a1⟩:=aux i oi h1
  obtain⟨y2,a2⟩:=aux j oj h2
  exact h.sep i j y1 y2 pi pj a1 a2 h3 h4 v1 v2 h5
theorem Rel.move{G:j4}{σ:c9}{w:World}(h:Rel G σ w){id id':Nat}{o:l7}{p:Pl}(ho:σ.objs id=some o)(hp:G.pl id=some p)(hid:G.pl id'=none)(hlt:id'<σ.next) :
  Rel (G.place id' p) ((σ.del id).set id' o) w:=by
 have hle:G.le (G.place id' p):=j4.place_le hid
 have hne:id≠id':=fun e=>by rw[e,hid]at hp;cases hp
 have back:∀ i x,i≠id'->((σ.del id).set id' o).objs i=some x->i≠id/\σ.objs i=some x:=fun i x hi hx=>by
  simp only[c9.objs_set,hi,if_false,c9.objs_del]at hx
  split at hx
  ·cases hx
  ·rename_i e;exact⟨e,hx⟩
 have hpl:∀ i q,i≠id'->(G.place id' p).pl i=some q->G.pl i=some q:=fun i q hi hq=>by simpa[j4.place,hi]using hq
 have lift:∀ q x,Lies G w q x->Lies (G.place id' p) w q x:=fun q x hl=>by
  rcases hl with hl | ⟨hv',hi1,hi2,hi3⟩
  ·exact .inl hl
  ·exact .inr ⟨hv',hi1,hi2,hi3.mono hle⟩
 refine⟨h.os,h.tape,h.output,h.size,h.imm,fun i hi=>?_,fun i x hx=>?_,fun i j oi oj pi pj h1 h2 h3 h4 v1 v2 h5=>?_,h.glob⟩
 ·have:i≠id':=by simp at hi;omega
  simp only[j4.place,this,if_false];exact h.fresh i hi
 ·by_cases e:i=id'
  ·subst e
   simp[c9.objs_set]at hx;subst hx
   exact⟨p,j4.place_same _ _ _,lift _ _ (h.lies ho hp)⟩
  ·obtain⟨_,hx'⟩:=back i x e hx
   obtain⟨q,hq,hl⟩:=h.objs i x hx'
   exact⟨q,hle.pl _ _ hq,lift _ _ hl⟩
 ·by_cases e1:i=id'<;>by_cases e2:j=id'
  ·rw[e1,e2]
  ·obtain⟨b1,b2⟩:=back j oj e2 h2
   subst e1
   rw[j4.place_same]at h3;cases h3
   exact absurd (h.sep j id oj o pj p b2 ho (hpl j pj e2 h4) hp v2 v1 h5.symm) b1
  ·obtain⟨b1,b2⟩:=back i oi e1 h1
   subst e2
   rw[j4.place_same]at h4;cases h4
   exact absurd (h.sep i id oi o pi p b2 ho (hpl i pi e1 h3) hp v1 v2 h5) b1
  ·obtain⟨_,b1⟩:=back i oi e1 h1
   obtain⟨_,b2⟩:=back j oj e2 h2
   exact h.sep i j oi oj pi pj b1 b2 (hpl i pi e1 h3) (hpl j pj e2 h4) v1 v2 h5
end Go.Ab
namespace Go.Ab
open Go
variable [B0]
structure TI where
 und:TypeDesc
 size:Nat
 zero:Value
 bytes:Nat
 flat:Option Nat:=none
abbrev Tab:=TypeId->Option TI
def TI.isAgg(ti:TI):Bool:=match ti.und with | .struct _ | .array _ _=>true | _=>false
def AV.one:AV->Bool
 | .sc (.agg _) | .sc (.tuple _) | .any | .agg _ | .tup _=>false
 | _=>true
def AV.cells:AV->Option (List AV)
 | .agg cs=>some cs
 | .tup _ | .any | .sc (.agg _) | .sc (.tuple _)=>none
 | x=>some [x]
def AV.ofValue:Value->AV
 | .agg cs=>.agg (cs.toList.map .sc)
 | v=>.sc v
def TI.zeroCells(ti:TI):List AV:=ti.zero.cells.toList.map .sc
structure C2(P:Program)(T:Tab):Prop where
 und:∀ t ti,T t=some ti->P.underlying t=some ti.und
 info:∀ t ti,T t=some ti->∃ i,P.info? t=some i/\i.size=ti.size/\i.bytes=ti.bytes/\i.zero=some ti.zero
 zlen:∀ t ti,T t=some ti->ti.zero.cells.size=ti.size
 flat:∀ t ti n,T t=some ti->ti.flat=some n->P.eqGuardType P.depth t=false/\∀ (as bs:List Int) (w:World),as.length=n->bs.length=n ->
  (Op.equalIn 10000 t (.agg (as.map (Value.int .i64)).toArray) (.agg (bs.map (Value.int .i64)).toArray)).run P w=.ok (as==bs) w /\
  ∀ b,(Instr.checkKey b 10000 t (.agg (as.map (Value.int .i64)).toArray)).run P w=.ok () w
section
variable {P:Program} {T:Tab} (hT:C2 P T) {t:TypeId} {ti:TI} (h:T t=some ti) (w:World)
include hT h
theorem B3:(underlying t).run P w=.ok ti.und w:=by simp[underlying,hT.und t ti h]
theorem F5:(sizeOf t).run P w=.ok ti.size w:=by
 obtain⟨i,h1,h2,_⟩:=hT.info t ti h
 simp[sizeOf,typeInfo,h1,h2]
theorem ad0:(zeroValue t).run P w=.ok ti.zero w:=by
 obtain⟨i,h1,_,_,h4⟩:=hT.info t ti h
 simp[zeroValue,typeInfo,h1,h4]
theorem cv0:(isAgg t).run P w=.ok ti.isAgg w:=by
 simp only[isAgg,Sem.run_bind,B3 hT h,Result.andThen_ok,TI.isAgg]
 cases ti.und<;>rfl
theorem lx0:∃ i,(typeInfo t).run P w=.ok i w/\i.bytes=ti.bytes:=by
 obtain⟨i,h1,_,h3,_⟩:=hT.info t ti h
 exact⟨i,by simp[typeInfo,h1],h3⟩
end
theorem Rep.ofValue(G:j4)(v:Value):Rep G (.ofValue v) v:=by
 cases v with
 | agg cs =>
  have:=Rep.agg (G:=G) (cs.toList.map .sc) cs.toList (by simp) (fun i h h'=>by simp;exact .sc _)
  simpa[AV.ofValue]using this
 | _=>exact .sc _
theorem B7.sc(G:j4)(vs:List Value):B7 G (vs.map .sc) vs:=⟨by simp,fun i h h'=>by simp;exact .sc _⟩
theorem Rep.cells{G:j4}{c:AV}{cs:List AV}{v:Value}(hc:c.cells=some cs)(h:Rep G c v):B7 G cs v.cells.toList:=by
 cases h with
 | agg cs' vs h1 h2=>simp[AV.cells]at hc;subst hc;simp[Value.cells];exact⟨h1,h2⟩
 | any=>simp[AV.cells]at hc
 | tup=>simp[AV.cells]at hc
 | sc v=>cases v<;>simp[AV.cells]at hc<;>subst hc<;>exact B7.cons (.sc _) (.nil _)
 | rsNil=>simp[AV.cells]at hc;subst hc;exact B7.cons .rsNil (.nil _)
 | rs es a cap size val hs hc' hlen himm hrep=>simp[AV.cells]at hc;subst hc;exact B7.cons (.rs es a cap size val hs hc' hlen himm hrep) (.nil _)
 | rp cs' a val hs himm hrep=>simp[AV.cells]at hc;subst hc;exact B7.cons (.rp cs' a val hs himm hrep) (.nil _)
 | ms id size off len p hp hv hz a c ha ho hl hsp=>simp[AV.cells]at hc;subst hc;exact B7.cons (.ms id size off len p hp hv hz a c ha ho hl hsp) (.nil _)
 | msNil id size p hp hv=>simp[AV.cells]at hc;subst hc;exact B7.cons (.msNil id size p hp hv) (.nil _)
 | mp id i j p hp=>simp[AV.cells]at hc;subst hc;exact B7.cons (.mp id i j p hp) (.nil _)
 | mm id p hp=>simp[AV.cells]at hc;subst hc;exact B7.cons (.mm id p hp) (.nil _)
 | it id p hp=>simp[AV.cells]at hc;subst hc;exact B7.cons (.it id p hp) (.nil _)
 | rm rows b ents himm hlen ij0 hrep=>simp[AV.cells]at hc;subst hc;exact B7.cons (.rm rows b ents himm hlen ij0 hrep) (.nil _)
 | fn f first cap fv cv h1 h2 h3 h4=>simp[AV.cells]at hc;subst hc;exact B7.cons (.fn f first cap fv cv h1 h2 h3 h4) (.nil _)
theorem Rep.one{G:j4}{c:AV}{v:Value}(hc:c.one=true)(h:Rep G c v):v.oneCell'=true:=by
 cases h with
 | sc v=>cases v<;>simp[AV.one]at hc<;>rfl
 | _=>first | rfl | simp[AV.one]at hc
def J4(G:j4)(σ:c9)(w:World)(σ':c9)(id:Nat)(v:AV)(r:Result Value):Prop :=
 ∃ G' u w',G.le G'/\(∀ i,i≠id->G.pl i=none->G'.pl i=none)/\r=.ok u w'/\Rep G' v u/\Rel G' σ' w'/\Fr G σ w G' σ' w'
theorem J4.same{G:j4}{σ:c9}{id:Nat}{v:AV}{u:Value}{w:World}(hr:Rep G v u)(h:Rel G σ w):J4 G σ w σ id v (.ok u w) :=
 ⟨G,u,w,.refl G,fun _ _ h=>h,rfl,hr,h,.refl _ _ _⟩
theorem J4.place{G:j4}{σ σ':c9}{id:Nat}{v:AV}{u:Value}{w w':World}{p:Pl}(hid:G.pl id=none)(hr:Rep (G.place id p) v u)(h:Rel (G.place id p) σ' w')(hf:Fr G σ w (G.place id p) σ' w'):J4 G σ w σ' id v (.ok u w') :=
 ⟨G.place id p,u,w',j4.place_le hid,fun i hi hg=>by simpa[j4.place,hi]using hg,rfl,hr,h,hf⟩
theorem J4.less{G:j4}{σ σ1 σ':c9}{id:Nat}{v:AV}{r:Result Value}{w:World}(hf:∀ i o,σ1.objs i=some o->σ.objs i=some o)(h:J4 G σ1 w σ' id v r):J4 G σ w σ' id v r:=by
 obtain⟨G',u,w',h1,h2,h3,h4,h5,h6⟩:=h
 exact⟨G',u,w',h1,h2,h3,h4,h5,(Fr.less hf).trans h6⟩
theorem tg0{G:j4}{cs:List AV}{vs:Array Value}(h:B7 G cs vs.toList):∀ i (h:i<[cs].length),([cs][i]).length=cs.length/\∀ j (hj:j<([cs][i]).length) (h':i*cs.length+j<vs.size),Rep G ([cs][i][j]) vs[i*cs.length+j]:=by
 intro i hi
 have:i=0:=by simpa using hi
 subst this
 refine⟨rfl,fun j hj h'=>?_⟩
 have:=h.2 j (by simpa using hj) (by simpa using h')
 simpa using this
theorem la0{P:Program}{G:j4}{σ:c9}{w:World}(h:Rel G σ w)(t:TypeId)(v:Value)(cs:List AV)(hc:B7 G cs v.cells.toList)(id:Nat)(hid:G.pl id=none)(hlt:id<σ.next) :
  J4 G σ w (σ.set id (.row t cs.length [cs])) id (.mp id 0 0) ((do pure (.pointer (some (<- newVar t v))):Sem Value).run P w):=by
 let p:Pl:={ block:=w.heap.size,size:=cs.length,cap:=1 }
 have hr:=h.push (.cells v.cells t) id hid hlt p rfl rfl (.row t cs.length [cs]) ⟨v.cells,rfl,rfl,by simpa[p]using hc.1,by simp[p],tg0 (hc.mono (j4.place_le hid))⟩
 refine J4.place (p:=p) (w':={ w with heap:=w.heap.push (.cells v.cells t) }) hid ?_ hr (Fr.push _ id hid p (fun _=>rfl) _ w.drawn)
 have:=Rep.mp (G:=G.place id p) id 0 0 p (j4.place_same _ _ _)
 simpa[p]using this
def fn0(T:Tab)(σ:c9)(id:Nat)(t:TypeId):Option (AV×c9) :=
 match T t with
 | some ti=>some (.mp id 0 0,σ.set id (.row t ti.zeroCells.length [ti.zeroCells]))
 | none=>none
theorem rl0{P:Program}{T:Tab}(hT:C2 P T){G:j4}{σ σ':c9}{w:World}(h:Rel G σ w){t:TypeId}{id:Nat}{v:AV}(hid:G.pl id=none)(hlt:id<σ.next)
  (ha:fn0 T σ id t=some (v,σ')):J4 G σ w σ' id v ((Instr.alloc t true (.tuple #[])).run P w):=by
 unfold fn0 at ha
 cases ht:T t with
 | none=>simp[ht]at ha
 | some ti =>
  simp only[ht,Option.some.injEq,Prod.mk.injEq]at ha
  obtain⟨rfl,rfl⟩:=ha
  have:=la0 (P:=P) h t ti.zero ti.zeroCells (B7.sc G _) id hid hlt
  simpa[Instr.alloc,ad0 hT ht]using this
def tG0(σ:c9)(id:Nat)(t:TypeId)(x:AV):Option (AV×c9) :=
 match x.cells with
 | some cs=>some (.mp id 0 0,σ.set id (.row t cs.length [cs]))
 | none=>none
theorem xx0{P:Program}{G:j4}{σ σ':c9}{w:World}(h:Rel G σ w){t:TypeId}{id:Nat}{x v:AV}{u:Value}(hx:Rep G x u)(hid:G.pl id=none)(hlt:id<σ.next)
  (ha:tG0 σ id t x=some (v,σ')):J4 G σ w σ' id v ((Instr.box t u).run P w):=by
 unfold tG0 at ha
 cases hc:x.cells with
 | none=>simp[hc]at ha
 | some cs =>
  simp only[hc,Option.some.injEq,Prod.mk.injEq]at ha
  obtain⟨rfl,rfl⟩:=ha
  exact la0 (P:=P) h t u cs (hx.cells hc) id hid hlt
def E4(ti:TI)(cs:List AV)(j:Nat):Option AV :=
 if ti.isAgg then (if j+ti.size<=cs.length then some (.agg ((cs.drop j).take ti.size))else none)else cs[j]?
def V1(T:Tab)(σ:c9)(t:TypeId)(x:AV):Option AV :=
 match x with
 | .mp id i j =>
  match σ.objs id with
  | some (.row _ _ es)=>match es[i]? with
   | some cs=>match T t with
    | some ti=>E4 ti cs j
    | none=>none
   | none=>none
  | _=>none
 | .rp cs=>match T t with
  | some ti=>E4 ti cs 0
  | none=>none
 | _=>none
theorem L4(b o n:Nat):(Addr.add ⟨b,o,none⟩ n)=⟨b,o+n,none⟩:=by
 unfold Addr.add;split
 ·rename_i h;subst h;rfl
 ·rfl
theorem Y4{P:Program}{T:Tab}(hT:C2 P T){G:j4}{w:World}{t:TypeId}{ti:TI}(ht:T t=some ti)(b o:Nat)(cs:List AV)(val:Nat->Value)(j:Nat)
  (hcell:∀ k,k<cs.length->w.cell? ⟨b,o+k,none⟩=some (val k)) (hrep:∀ k (hk:k<cs.length),Rep G cs[k] (val k)) {v:AV} (hl:E4 ti cs j=some v) :
  ∃ u,(loadVar t ⟨b,o+j,none⟩).run P w=.ok u w/\Rep G v u:=by
 unfold E4 at hl
 by_cases ha:ti.isAgg=true
 ·rw[if_pos ha]at hl
  split at hl
  ·rename_i hlen
   cases hl
   have hload:=run_loadCells (P:=P) w ⟨b,o+j,none⟩ ti.size (fun k=>val (j+k)) (fun k hk=>by rw[L4,Nat.add_assoc];exact hcell _ (by omega))
   refine⟨_,by simp only[loadVar,Sem.run_bind,cv0 hT ht,ha,if_true,F5 hT ht,hload,Result.andThen_ok,Sem.run_pure];rfl,?_⟩
   have:=Rep.agg (G:=G) ((cs.drop j).take ti.size) ((List.range ti.size).map fun k=>val (j+k)) (by simp;omega) (fun i h h'=>by
    simp at h h'
    have:=hrep (j+i) (by omega)
    simpa using this)
   simpa using this
  ·cases hl
 ·rw[if_neg ha]at hl
  obtain⟨hj,rfl⟩:=List.getElem?_eq_some_iff.1 hl
  refine⟨val j,?_,hrep j hj⟩
  simp only[loadVar,Sem.run_bind,cv0 hT ht,Bool.not_eq_true _▸ha,Result.andThen_ok]
  simp[run_load,hcell j hj]
theorem tn0{P:Program}{T:Tab}(hT:C2 P T){G:j4}{σ:c9}{w:World}(h:Rel G σ w){t:TypeId}{id:Nat}{x v:AV}{u:Value}(hx:Rep G x u)
  (ha:V1 T σ t x=some v):J4 G σ w σ id v ((Instr.loadAt t u).run P w):=by
 cases hx with
 | mp id' i j p hp =>
  simp only[V1]at ha
  cases ho:σ.objs id' with
  | none=>simp[ho]at ha
  | some o =>
   cases o with
   | row elem size es =>
    simp only[ho]at ha
    cases he:es[i]? with
    | none=>simp[he]at ha
    | some cs =>
     simp only[he]at ha
     cases ht:T t with
     | none=>simp[ht]at ha
     | some ti =>
      simp only[ht]at ha
      obtain⟨hi,hie⟩:=List.getElem?_eq_some_iff.1 he
      have hv:p.virt=false:=by
       rcases h.lies ho hp with ⟨_,e,s,h2⟩ | ⟨h2,_⟩
       ·cases h2;simp at hi
       ·exact h2
      obtain⟨_,_,cells,hb,hs,hn,hle,hrow⟩:=h.real ho hp hv
      obtain⟨hlen,hrow2⟩:=hrow i hi
      rw[hie]at hlen
      have hbound:∀ k,k<cs.length->i*size+k<cells.size:=fun k hk=>by
       rw[hn]
       have:(i+1)*size<=p.cap*size:=Nat.mul_le_mul_right _ (by omega)
       rw[Nat.add_mul]at this;omega
      have:=Y4 hT ht (P:=P) (G:=G) (w:=w) p.block (i*p.size) cs (fun k=>cells.getD (i*size+k) default) j
       (fun k hk=>by
        rw[cell_of_row w _ _ cells elem _ hb,hs]
        have:=hbound k hk
        simp[this]) (fun k hk=>by
        have h3:=hrow2 k (by rw[hie];exact hk) (hbound k hk)
        have:=hbound k hk
        simp only[hie]at h3
        simpa[this]using h3) ha
      obtain⟨u,hu,hr⟩:=this
      have q:=J4.same (id:=id) (u:=u) hr h
      simp only[Instr.loadAt,Instr.sureAddr,Sem.run_bind,Sem.run_pure,Result.andThen_ok,hu]
      exact q
   | _=>simp[ho]at ha
 | rp cs a val hs himm hrep =>
  simp only[V1]at ha
  cases ht:T t with
  | none=>simp[ht]at ha
  | some ti =>
   simp only[ht]at ha
   obtain⟨b,o,s⟩:=a
   simp at hs;subst hs
   obtain⟨u,hu,hr⟩:=Y4 hT ht (P:=P) (G:=G) (w:=w) b o cs val 0 (fun k hk=>h.cell (himm k hk)) hrep ha
   have q:=J4.same (id:=id) (u:=u) hr h
   simp only[Instr.loadAt,Instr.sureAddr,Sem.run_bind,Sem.run_pure,Result.andThen_ok]
   rw[Nat.add_zero]at hu
   rw[hu];exact q
 | _=>simp[V1]at ha
def nA0(g:Nat):Nat->Option (List Value)
 | 0=>some []
 | n+1=>match nA0 g n,B0.cell g n with
  | some l,some v=>some (l++[v])
  | _,_=>none
theorem iK0{g:Nat}:∀ {n:Nat} {l:List Value},nA0 g n=some l->l.length=n/\∀ i (h:i<l.length),B0.cell g i=some l[i]
 | 0,l,h=>by cases h;exact⟨rfl,fun i h=>by simp at h⟩
 | n+1,l,h=>by
  unfold nA0 at h
  split at h
  ·rename_i l0 v h1 h2
   cases h
   obtain⟨e1,e2⟩:=iK0 h1
   refine⟨by simp[e1],fun i hi=>?_⟩
   by_cases hl:i<l0.length
   ·rw[List.getElem_append_left hl];exact e2 i hl
   ·have:i=n:=by simp at hi;omega
    subst this
    rw[List.getElem_append_right (by omega)]
    simpa[e1]using h2
  ·cases h
def qn0(T:Tab)(t:TypeId)(g:Nat):Option AV :=
 match T t with
 | some ti=>match nA0 g ti.size with
  | some l=>E4 ti (l.map .sc) 0
  | none=>none
 | none=>none
def ch0:AV->Option Nat
 | .sc (.pointer (some ⟨g,0,none⟩))=>some g
 | _=>none
def am0(T:Tab)(σ:c9)(t:TypeId)(x:AV):Option AV :=
 match ch0 x with
 | some g=>qn0 T t g
 | none=>V1 T σ t x
theorem hk0{x:AV}{g:Nat}(h:ch0 x=some g):x=.sc (.pointer (some ⟨g,0,none⟩)):=by
 unfold ch0 at h
 split at h
 ·cases h;rfl
 ·cases h
theorem so0{P:Program}{T:Tab}(hT:C2 P T){G:j4}{σ:c9}{w:World}(h:Rel G σ w){t:TypeId}{id:Nat}{x v:AV}{u:Value}(hx:Rep G x u)
  (ha:am0 T σ t x=some v):J4 G σ w σ id v ((Instr.loadAt t u).run P w):=by
 unfold am0 at ha
 split at ha
 ·rename_i g hg
  rw[hk0 hg]at hx
  cases hx
  unfold qn0 at ha
  split at ha
  ·rename_i ti ht
   split at ha
   ·rename_i l hl
    obtain⟨e1,e2⟩:=iK0 hl
    obtain⟨u,hu,hr⟩:=Y4 hT ht (P:=P) (G:=G) (w:=w) g 0 (l.map .sc) (fun k=>l.getD k undef) 0 (fun k hk=>by
     have hk':k<l.length:=by simpa using hk
     rw[Nat.zero_add]
     refine h.cell (h.glob _ _ _ ?_)
     rw[e2 k hk'];simp[hk']) (fun k hk=>by
     have hk':k<l.length:=by simpa using hk
     simp only[List.getElem_map]
     have:l.getD k undef=l[k]:=by simp[hk']
     rw[this];exact .sc _) ha
    have q:=J4.same (id:=id) (u:=u) hr h
    simp only[Instr.loadAt,Instr.sureAddr,Sem.run_bind,Sem.run_pure,Result.andThen_ok]
    rw[Nat.add_zero]at hu
    rw[hu];exact q
   ·cases ha
  ·cases ha
 ·exact tn0 hT h hx ha
end Go.Ab
namespace Go.Ab
open Go
variable [B0]
def D6(w:World)(b:Nat)(o:Obj):World:={ w with heap:=w.heap.setIfInBounds b o }
theorem F9(w:World)(b:Nat)(o:Obj):(D6 w b o).heap.size=w.heap.size:=by simp[D6]
theorem E2(w:World)(b:Nat)(o:Obj)(k:Nat)(h:k≠b):(D6 w b o).heap[k]?=w.heap[k]?:=by
 simp[D6,Array.getElem?_setIfInBounds];intro h';exact absurd h'.symm h
theorem R3(w:World)(b:Nat)(o x:Obj)(h:w.heap[b]?=some x):(D6 w b o).heap[b]?=some o:=by
 have:b<w.heap.size:=by
  rcases Nat.lt_or_ge b w.heap.size with h' | h'
  ·exact h'
  ·rw[Array.getElem?_eq_none h']at h;cases h
 simp[D6,Array.getElem?_setIfInBounds,this]
theorem if0(w:World)(b o:Nat)(v:Value)(cs:Array Value)(t:TypeId)(h:w.heap[b]?=some (.cells cs t (0,0))) :
  w.setCell ⟨b,o,none⟩ v=D6 w b (.cells (cs.setIfInBounds o v) t (0,0)):=by
 have hlt:b<w.heap.size:=by
  rcases Nat.lt_or_ge b w.heap.size with h' | h'
  ·exact h'
  ·rw[Array.getElem?_eq_none h']at h;cases h
 unfold World.setCell D6
 congr 1
 apply Array.ext
 ·simp
 ·intro i h1 h2
  have hi:i<w.heap.size:=by simpa using h2
  rw[Array.getElem_modify,Array.getElem_setIfInBounds hi]
  by_cases e:b=i
  ·subst e
   have:w.heap[b]=.cells cs t (0,0):=by simpa[Array.getElem?_eq_getElem hlt]using h
   simp[this]
  ·simp[e]
theorem jv0(w:World)(b:Nat)(x y:Obj):D6 (D6 w b x) b y=D6 w b y:=by simp[D6]
theorem U1{P:Program}(b:Nat)(off:Nat)(t:TypeId):∀ (vs:List Value) (i:Nat) (cs:Array Value) (w:World),w.heap[b]?=some (.cells cs t (0,0))->off+i+vs.length<=cs.size ->
  (∀ v∈vs,v.oneCell'=true)->∃ cs':Array Value,(storeCells ⟨b,off,none⟩ vs i).run P w=.ok () (D6 w b (.cells cs' t (0,0)))/\cs'.size=cs.size /\
   ∀ k,cs'[k]?=if off+i<=k/\k<off+i+vs.length then vs[k-(off+i)]? else cs[k]?
 | [],i,cs,w,hb,_,_=>by
  refine⟨cs,?_,rfl,fun k=>by simp;intro h1 h2;omega⟩
  have:D6 w b (.cells cs t (0,0))=w:=by
   have hlt:b<w.heap.size:=by
    rcases Nat.lt_or_ge b w.heap.size with h' | h'
    ·exact h'
    ·rw[Array.getElem?_eq_none h']at hb;cases hb
   have hg:w.heap[b]=.cells cs t (0,0):=by simpa[Array.getElem?_eq_getElem hlt]using hb
   unfold D6
   congr 1
   apply Array.ext
   ·simp
   ·intro j h1 h2
    rw[Array.getElem_setIfInBounds h2]
    by_cases e:b=j
    ·subst e;simp[hg]
    ·simp[e]
  rw[this];simp[storeCells]
 | v::vs,i,cs,w,hb,hlen,hone=>by
  simp only[List.length_cons]at hlen
  have hc:w.cell? ⟨b,off+i,none⟩=some (cs[off+i]'(by omega)):=by rw[cell_of_row w _ _ cs t _ hb];exact Array.getElem?_eq_getElem _
  have hfz:w.frozen? ⟨b,off+i,none⟩=false:=frozen_of_row w b _ cs t hb
  have hst:(store (Addr.add ⟨b,off,none⟩ i) v).run P w=.ok () (w.setCell ⟨b,off+i,none⟩ v):=by
   rw[L4,run_store P w _ v .plain (hone v (by simp)),hc];simp[hfz]
  rw[if0 w b _ v cs t hb]at hst
  obtain⟨cs',h1,h2,h3⟩:=U1 (P:=P) b off t vs (i+1) (cs.setIfInBounds (off+i) v) (D6 w b (.cells (cs.setIfInBounds (off+i) v) t (0,0)))
   (R3 w b _ _ hb) (by simp;omega) (fun u hu=>hone u (by simp[hu]))
  refine⟨cs',?_,by rw[h2];simp,fun k=>?_⟩
  ·simp only[storeCells,Sem.run_bind,hst,Result.andThen_ok,h1,jv0]
  ·rw[h3 k]
   by_cases e:k=off+i
   ·subst e
    rw[if_neg (by omega),if_pos (by simp),Array.getElem?_setIfInBounds,if_pos rfl,if_pos (by omega)]
    simp
   ·by_cases e2:off+(i+1)<=k/\k<off+(i+1)+vs.length
    ·rw[if_pos e2,if_pos (by simp;omega)]
     obtain⟨n,hn⟩:∃ n,k-(off+i)=n+1:=⟨k-(off+i)-1,by omega⟩
     rw[hn];simp;congr 1;omega
    ·rw[if_neg e2,if_neg (by simp;omega),Array.getElem?_setIfInBounds,if_neg (by omega)]
def N6(cs:List AV)(j:Nat)(vs:List AV):List AV:=cs.take j++vs++cs.drop (j+vs.length)
theorem eG0(cs:List AV)(j:Nat)(vs:List AV)(h:j+vs.length<=cs.length)(k:Nat):(N6 cs j vs)[k]?=if j<=k/\k<j+vs.length then vs[k-j]? else cs[k]?:=by
 unfold N6
 rw[List.append_assoc,List.getElem?_append]
 simp only[List.length_take]
 by_cases h1:k<min j cs.length
 ·rw[if_pos h1,if_neg (by omega),List.getElem?_take,if_pos (by omega)]
 ·rw[if_neg h1,List.getElem?_append]
  by_cases h2:k-min j cs.length<vs.length
  ·rw[if_pos h2,if_pos (by omega)];congr 1;omega
  ·rw[if_neg h2,if_neg (by omega),List.getElem?_drop];congr 1;omega
theorem jU0(cs:List AV)(j:Nat)(vs:List AV)(h:j+vs.length<=cs.length):(N6 cs j vs).length=cs.length:=by
 simp[N6];omega
def V4(T:Tab)(σ:c9)(t:TypeId)(x v:AV):Option c9 :=
 match x,v.cells,T t with
 | .mp id i j,some vs,some ti =>
  match σ.objs id with
  | some (.row elem size es)=>match es[i]? with
   | some cs=>if vs.length=ti.size/\j+vs.length<=cs.length/\vs.all AV.one=true then some (σ.set id (.row elem size (es.set i (N6 cs j vs))))else none
   | none=>none
  | _=>none
 | _,_,_=>none
theorem kS0{G:j4}{size:Nat}{es:List (List AV)}{cells:Array Value}(hrow:∀ i (h:i<es.length),es[i].length=size/\∀ j (hj:j<es[i].length) (h':i*size+j<cells.size),Rep G es[i][j] cells[i*size+j])
  {i j:Nat} {c:AV} {cs:List AV} (he:es[i]?=some cs) (hc:cs[j]?=some c) {v:Value} (hv:cells[i*size+j]?=some v):Rep G c v:=by
 obtain⟨hi,rfl⟩:=List.getElem?_eq_some_iff.1 he
 obtain⟨hj,rfl⟩:=List.getElem?_eq_some_iff.1 hc
 obtain⟨hk,rfl⟩:=Array.getElem?_eq_some_iff.1 hv
 exact(hrow i hi).2 j hj hk
theorem sR0{i i' size j j':Nat}(h:i*size+j=i'*size+j')(hj:j<size)(hj':j'<size):i=i'/\j=j':=by
 have h1:(i*size+j) / size=i:=by rw[Nat.mul_comm,Nat.mul_add_div (by omega),Nat.div_eq_of_lt hj];simp
 have h2:(i'*size+j') / size=i':=by rw[Nat.mul_comm,Nat.mul_add_div (by omega),Nat.div_eq_of_lt hj'];simp
 have:i=i':=by rw[<- h1,<-h2,h]
 subst this
 exact⟨rfl,by omega⟩
theorem sx0{P:Program}{T:Tab}(hT:C2 P T){G:j4}{σ σ':c9}{w:World}(h:Rel G σ w){t:TypeId}{x v:AV}{u y:Value}(hx:Rep G x u)(hy:Rep G v y)
  (ha:V4 T σ t x v=some σ'):∃ w',(Instr.storeAt t u y).run P w=.ok () w'/\Rel G σ' w'/\Fr G σ w G σ' w':=by
 unfold V4 at ha
 split at ha
 ·rename_i id i j vs ti hcells ht
  split at ha
  ·rename_i elem size es ho
   split at ha
   ·rename_i cs he
    split at ha
    ·rename_i hcond
     obtain⟨h1,h2,h3⟩:=hcond
     cases ha
     cases hx with
     | mp id i j p hp =>
     have hreps:=hy.cells hcells
     obtain⟨hi,hie⟩:=List.getElem?_eq_some_iff.1 he
     have hv:p.virt=false:=by
      rcases h.lies ho hp with ⟨_,e,s,h2⟩ | ⟨h2,_⟩
      ·cases h2;simp at hi
      ·exact h2
     obtain⟨_,_,cells,hb,hs,hn,hle,hrow⟩:=h.real ho hp hv
     have hlen:cs.length=size:=by rw[<- hie];exact(hrow i hi).1
     have hbig:(i+1)*size<=cells.size:=by rw[hn];exact Nat.mul_le_mul_right _ (by omega)
     rw[Nat.add_mul]at hbig
     obtain⟨cs',hrun,hsz,O3⟩:=U1 (P:=P) p.block (i*p.size+j) elem y.cells.toList 0 cells w hb (by rw[hreps.1,hs];omega)
      (fun z hz=>by
       obtain⟨k,hk,rfl⟩:=List.getElem_of_mem hz
       have hk':k<vs.length:=by rw[<- hreps.1];exact hk
       exact(hreps.2 k hk' hk).one (by rw[List.all_eq_true]at h3;exact h3 _ (List.getElem_mem hk')))
     refine⟨D6 w p.block (.cells cs' elem (0,0)),?_,h.write ho hp hv (.cells cs' elem (0,0)) _ rfl rfl rfl (F9 _ _ _) (fun k hk=>E2 _ _ _ _ hk) (R3 _ _ _ _ hb) ⟨cs',rfl,hs,by rw[hsz,hn],by simp;exact hle,fun i' hi'=>?_⟩,Fr.write ho hp hv _ (F9 _ _ _) (fun k hk=>E2 _ _ _ _ hk)⟩
     ·simp only[Instr.storeAt,Instr.sureAddr,Sem.run_bind,Sem.run_pure,Result.andThen_ok,storeVar,F5 hT ht]
      rw[if_neg (by have:=hreps.1;simp at this ⊢;omega)]
      simpa using hrun
     ·have hi2:i'<es.length:=by simpa using hi'
      have hl':((es.set i (N6 cs j vs))[i']).length=size:=by
       rw[List.getElem_set];split
       ·rw[jU0 _ _ _ h2,hlen]
       ·exact(hrow i' hi2).1
      refine⟨hl',fun j' hj' hk=>?_⟩
      have hj2:j'<size:=by rw[<- hl'];exact hj'
      have hg:=O3 (i'*size+j')
      rw[Array.getElem?_eq_getElem hk]at hg
      have hL:y.cells.toList.length=vs.length:=hreps.1
      simp only[Nat.add_zero,hL,hs]at hg
      by_cases e:i'=i
      ·subst e
       have hspl:=eG0 cs j vs h2 j'
       have hnew:((es.set i' (N6 cs j vs))[i'])[j']?=some ((es.set i' (N6 cs j vs))[i'][j']):=List.getElem?_eq_getElem _
       simp only[List.getElem_set_self]at hnew
       rw[hspl]at hnew
       by_cases e2:j<=j'/\j'<j+vs.length
       ·rw[if_pos e2]at hnew
        rw[if_pos (by omega)]at hg
        have:i'*size+j'-(i'*size+j)=j'-j:=by omega
        rw[this]at hg
        obtain⟨z,hz1,hz2⟩:=hreps.get hnew
        rw[hz1]at hg;cases hg
        simpa using hz2
       ·rw[if_neg e2]at hnew
        rw[if_neg (by omega)]at hg
        have:=kS0 hrow he hnew hg.symm
        simpa using this
      ·rw[if_neg (fun hh=>by
        have:i'*size+j'=i*size+(i'*size+j'-i*size):=by omega
        exact e (sR0 this hj2 (by omega)).1)]at hg
       have hnew:(es[i'])[j']?=some (es[i'][j']'(by rw[(hrow i' hi2).1];exact hj2)):=List.getElem?_eq_getElem _
       have:=kS0 hrow (List.getElem?_eq_getElem hi2) hnew hg.symm
       simp only[List.getElem_set_ne (Ne.symm e)]
       exact this
    ·cases ha
   ·cases ha
  ·cases ha
 ·cases ha
end Go.Ab
namespace Go.Ab
open Go
variable [B0]
def M7(T:Tab)(s:TypeId)(x:AV)(field:Nat):Option AV :=
 match T s with
 | some { und:=.struct fields,.. } =>
  match fields[field]? with
  | some f=>match T f.type with
   | some fi=>if fi.size=0 then none else
    match x with
    | .mp id i j=>some (.mp id i (j+f.offset))
    | .rp cs=>if f.offset<=cs.length then some (.rp (cs.drop f.offset))else none
    | _=>none
   | none=>none
  | none=>none
 | _=>none
theorem Rep.rp_drop{G:j4}{cs:List AV}{b o:Nat}(h:Rep G (.rp cs) (.pointer (some ⟨b,o,none⟩)))(n:Nat)(hn:n<=cs.length):Rep G (.rp (cs.drop n)) (.pointer (some ⟨b,o+n,none⟩)):=by
 cases h with
 | rp cs a val hs himm hrep =>
  refine .rp _ _ (fun j=>val (n+j)) rfl (fun j hj=>?_) (fun j hj=>?_)
  ·simp at hj
   have:=himm (n+j) (by omega)
   simpa[Nat.add_assoc]using this
  ·simp at hj
   have:=hrep (n+j) (by omega)
   simpa using this
theorem jN0{P:Program}{T:Tab}(hT:C2 P T){G:j4}{σ:c9}{w:World}(h:Rel G σ w){s:TypeId}{id field:Nat}{x v:AV}{u:Value}(hx:Rep G x u)
  (ha:M7 T s x field=some v):J4 G σ w σ id v ((Instr.fieldAt s u field).run P w):=by
 unfold M7 at ha
 split at ha
 ·rename_i fields size zero bytes _ hs
  split at ha
  ·rename_i f hf
   split at ha
   ·rename_i fi hfi
    split at ha
    ·cases ha
    ·rename_i hsz
     have key:∀ b o,u=.pointer (some ⟨b,o,none⟩)->(Instr.fieldAt s u field).run P w=.ok (.pointer (some ⟨b,o+f.offset,none⟩)) w:=fun b o hu=>by
      subst hu
      simp only[Instr.fieldAt,Sem.run_bind,B3 hT hs,Result.andThen_ok,hf,Instr.sureAddr,Sem.run_pure,fieldPlace,F5 hT hfi]
      rw[if_neg hsz]
      simp[L4]
     split at ha
     ·rename_i id' i j
      cases ha
      cases hx with
      | mp _ _ _ p hp =>
       rw[key _ _ rfl]
       refine J4.same ?_ h
       have:=Rep.mp (G:=G) id' i (j+f.offset) p hp
       rwa [<- Nat.add_assoc]at this
     ·split at ha
      ·rename_i cs hle
       cases ha
       have hx':=hx
       cases hx with
       | rp cs a val hs' himm hrep =>
        obtain⟨b,o,sp⟩:=a
        simp at hs';subst hs'
        rw[key _ _ rfl]
        exact J4.same (hx'.rp_drop _ hle) h
      ·cases ha
     ·cases ha
   ·cases ha
  ·cases ha
 ·cases ha
def jX0(T:Tab)(t:TypeId)(cs:List AV)(off:Nat):Option AV :=
 match T t with
 | some ti=>E4 ti cs off
 | none=>none
theorem oi0{P:Program}{T:Tab}(hT:C2 P T){G:j4}{w:World}{t:TypeId}{cs:List AV}{vs:List Value}(hcs:B7 G cs vs){off:Nat}{v:AV}(ha:jX0 T t cs off=some v) :
  ∃ u,(part t vs.toArray off).run P w=.ok u w/\Rep G v u:=by
 unfold jX0 at ha
 split at ha
 ·rename_i ti ht
  unfold E4 at ha
  by_cases hag:ti.isAgg=true
  ·rw[if_pos hag]at ha
   split at ha
   ·rename_i hlen
    cases ha
    refine⟨_,by simp only[part,Sem.run_bind,cv0 hT ht,hag,if_true,F5 hT ht,Result.andThen_ok,Sem.run_pure];rfl,?_⟩
    have hr:=(hcs.drop off).take ti.size
    have:=Rep.agg (G:=G) _ _ hr.1 hr.2
    have e:vs.toArray.extract off (off+ti.size)=(List.take ti.size (List.drop off vs)).toArray:=by
     simp[List.extract_toArray,List.extract_eq_take_drop]
    rw[e];exact this
   ·cases ha
  ·rw[if_neg hag]at ha
   obtain⟨u,hu,hr⟩:=hcs.get ha
   refine⟨u,?_,hr⟩
   simp only[part,Sem.run_bind,cv0 hT ht,Bool.not_eq_true _▸hag,Result.andThen_ok]
   simp[hu]
 ·cases ha
def gm0(T:Tab)(s:TypeId)(x:AV)(field:Nat):Option AV :=
 match T s,x with
 | some { und:=.struct fields,.. },.agg cs=>match fields[field]? with
  | some f=>jX0 T f.type cs f.offset
  | none=>none
 | _,_=>none
theorem sw0{P:Program}{T:Tab}(hT:C2 P T){G:j4}{σ:c9}{w:World}(h:Rel G σ w){s:TypeId}{id field:Nat}{x v:AV}{u:Value}(hx:Rep G x u)
  (ha:gm0 T s x field=some v):J4 G σ w σ id v ((Instr.field s u field).run P w):=by
 unfold gm0 at ha
 split at ha
 ·rename_i fields _ _ _ _ cs hs
  split at ha
  ·rename_i f hf
   cases hx with
   | agg cs vs h1 h2 =>
    obtain⟨y,hy,hr⟩:=oi0 hT (P:=P) (w:=w) ⟨h1,h2⟩ ha
    simp only[Instr.field,Sem.run_bind,B3 hT hs,Result.andThen_ok,hf,asAgg,Sem.run_pure,hy]
    exact J4.same hr h
  ·cases ha
 ·cases ha
def AV.int?:AV->Option Int
 | .sc (.int _ n)=>some n
 | _=>none
def D4(T:Tab)(t:TypeId)(x ix:AV):Option AV :=
 match T t,ix with
 | some { und:=.slice elem,.. },.sc (.int _ n) =>
  match T elem with
  | some ei =>
   match x with
   | .ms id size off len=>if 0<=n/\n<len/\size=ei.size then some (.mp id (off+n.toNat) 0)else none
   | .rs es=>if 0<=n then match es[n.toNat]? with
     | some cs=>if cs.length=ei.size then some (.rp cs)else none
     | none=>none
    else none
   | _=>none
  | none=>none
 | some { und:=.array len elem,.. },.sc (.int _ n) =>
  match T elem with
  | some ei=>if 0<=n/\n<len then
    match x with
    | .mp id i j=>some (.mp id i (j+n.toNat*ei.size))
    | .rp cs=>if n.toNat*ei.size<=cs.length then some (.rp (cs.drop (n.toNat*ei.size)))else none
    | _=>none
   else none
  | none=>none
 | _,_=>none
theorem jw0{P:Program}{T:Tab}(hT:C2 P T){G:j4}{σ:c9}{w:World}(h:Rel G σ w){t:TypeId}{id:Nat}{x ix v:AV}{u y:Value}(hx:Rep G x u)(hy:Rep G ix y)
  (ha:D4 T t x ix=some v):J4 G σ w σ id v ((Instr.indexAt t u y).run P w):=by
 unfold D4 at ha
 split at ha
 ·rename_i elem _ _ _ _ k n ht
  split at ha
  ·rename_i ei he
   cases hy
   split at ha
   ·rename_i id' size off len
    split at ha
    ·rename_i hn
     obtain⟨hn0,hn1,hse⟩:=hn
     cases ha
     cases hx with
     | msNil=>omega
     | ms _ _ _ _ p hp hv hs a c hA hoff hl hsp =>
      rw[hA (by omega)]
      simp only[Instr.indexAt,asIntOf,Sem.run_bind,Sem.run_pure,Result.andThen_ok,B3 hT ht]
      rw[if_pos (by omega)]
      simp only[Sem.run_bind,F5 hT he,Result.andThen_ok,Sem.run_pure,L4]
      refine J4.same ?_ h
      have:=Rep.mp (G:=G) id' (off+n.toNat) 0 p hp
      rw[hs,<-hse]
      rw[hs,Nat.add_mul,Nat.add_zero]at this
      exact this
    ·cases ha
   ·rename_i es
    split at ha
    ·rename_i hn
     split at ha
     ·rename_i cs hcs
      split at ha
      ·rename_i hlen
       cases ha
       obtain⟨hi,hie⟩:=List.getElem?_eq_some_iff.1 hcs
       cases hx with
       | rsNil=>simp at hi
       | rs es a cap size val hs hc hl himm hrep =>
        have hs:=hs (by omega)
        obtain⟨b,o,sp⟩:=a
        simp at hs;subst hs
        have hsz:ei.size=size:=by rw[<- hlen,<-hie];exact hl _ hi
        simp only[Instr.indexAt,asIntOf,Sem.run_bind,Sem.run_pure,Result.andThen_ok,B3 hT ht]
        rw[if_pos (by omega)]
        simp only[Sem.run_bind,F5 hT he,Result.andThen_ok,Sem.run_pure,L4]
        refine J4.same ?_ h
        refine .rp _ _ (fun j=>val n.toNat j) rfl (fun j hj=>?_) (fun j hj=>?_)
        ·have:=himm n.toNat j hi (by omega)
         simpa[hsz]using this
        ·have:=hrep n.toNat j hi (by rw[hie];exact hj)
         simpa[hie]using this
      ·cases ha
     ·cases ha
    ·cases ha
   ·cases ha
  ·cases ha
 ·rename_i len elem _ _ _ _ k n ht
  split at ha
  ·rename_i ei he
   cases hy
   split at ha
   ·rename_i hn
    have key:∀ b o,u=.pointer (some ⟨b,o,none⟩)->(Instr.indexAt t u (.int k n)).run P w=.ok (.pointer (some ⟨b,o+n.toNat*ei.size,none⟩)) w:=fun b o hu=>by
     subst hu
     simp only[Instr.indexAt,asIntOf,Sem.run_bind,Sem.run_pure,Result.andThen_ok,B3 hT ht,Instr.sureAddr]
     rw[if_pos hn]
     simp[F5 hT he,L4]
    split at ha
    ·rename_i id' i j
     cases ha
     cases hx with
     | mp _ _ _ p hp =>
      rw[key _ _ rfl]
      refine J4.same ?_ h
      have:=Rep.mp (G:=G) id' i (j+n.toNat*ei.size) p hp
      rwa [<- Nat.add_assoc]at this
    ·split at ha
     ·rename_i cs hle
      cases ha
      have hx':=hx
      cases hx with
      | rp cs a val hs' himm hrep =>
       obtain⟨b,o,sp⟩:=a
       simp at hs';subst hs'
       rw[key _ _ rfl]
       exact J4.same (hx'.rp_drop _ hle) h
     ·cases ha
    ·cases ha
   ·cases ha
  ·cases ha
 ·cases ha
def cb0(T:Tab)(t:TypeId)(x ix:AV):Option AV :=
 match T t,x,ix with
 | some { und:=.array len elem,.. },.agg cs,.sc (.int _ n) =>
  match T elem with
  | some ei=>if 0<=n/\n<len then jX0 T elem cs (n.toNat*ei.size)else none
  | none=>none
 | some { und:=.string,.. },.sc (.string s),.sc (.int _ n) =>
  if 0<=n then match s[n.toNat]? with
   | some b=>some (.sc (.int .u8 b.toNat))
   | none=>none
  else none
 | _,_,_=>none
theorem qr0{P:Program}{T:Tab}(hT:C2 P T){G:j4}{σ:c9}{w:World}(h:Rel G σ w){t:TypeId}{id:Nat}{x ix v:AV}{u y:Value}(hx:Rep G x u)(hy:Rep G ix y)
  (ha:cb0 T t x ix=some v):J4 G σ w σ id v ((Instr.index t u y).run P w):=by
 unfold cb0 at ha
 split at ha
 ·rename_i len elem _ _ _ _ cs k n ht
  split at ha
  ·rename_i ei he
   split at ha
   ·rename_i hn
    cases hy
    cases hx with
    | agg cs vs h1 h2 =>
     obtain⟨z,hz,hr⟩:=oi0 hT (P:=P) (w:=w) ⟨h1,h2⟩ ha
     simp only[Instr.index,asIntOf,Sem.run_bind,Sem.run_pure,Result.andThen_ok,B3 hT ht]
     rw[if_pos hn]
     simp only[Sem.run_bind,F5 hT he,Result.andThen_ok,hz]
     exact J4.same hr h
   ·cases ha
  ·cases ha
 ·rename_i _ _ _ _ s k n ht
  split at ha
  ·rename_i hn
   split at ha
   ·rename_i b hb
    cases ha
    cases hy
    cases hx
    simp only[Instr.index,asIntOf,Sem.run_bind,Sem.run_pure,Result.andThen_ok,B3 hT ht,hn,if_true,hb]
    exact J4.same (.sc _) h
   ·cases ha
  ·cases ha
 ·cases ha
def bound(len:Nat)(x:Option AV)(dflt:Nat):Option Nat :=
 match x with
 | none=>some dflt
 | some (.sc (.int _ n))=>if 0<=n/\n<=len then some n.toNat else none
 | _=>none
def bt0(T:Tab)(t:TypeId)(x:AV)(lo hi mx:Option AV):Option AV :=
 match mx,T t with
 | none,some { und:=.slice elem,.. } =>
  match T elem,x with
  | some ei,.ms id size off len=>if size=ei.size then
    match bound len hi len with
    | some h=>match bound h lo 0 with
     | some l=>some (.ms id size (off+l) (h-l))
     | none=>none
    | none=>none
   else none
  | some ei,.rs es=>match bound es.length hi es.length with
   | some h=>match bound h lo 0 with
    | some l=>if es.all (fun c=>c.length==ei.size)then some (.rs ((es.take h).drop l))else none
    | none=>none
   | none=>none
  | some _,.sc (.slice none 0 0)=>match bound 0 hi 0 with
   | some h=>match bound h lo 0 with
    | some _=>some (.sc (.slice none 0 0))
    | none=>none
   | none=>none
  | _,_=>none
 | none,some { und:=.string,.. } =>
  match x with
  | .sc (.string s)=>match bound s.size hi s.size with
   | some h=>match bound h lo 0 with
    | some l=>some (.sc (.string (s.extract l h)))
    | none=>none
   | none=>none
  | _=>none
 | _,_=>none
def pJ0(G:j4)(x:Option AV)(v:Option Value):Prop :=
 match x,v with
 | none,none=>True
 | some a,some b=>Rep G a b
 | _,_=>False
theorem gy0{G:j4}{len d n:Nat}{x:Option AV}{v:Option Value}(hx:pJ0 G x v)(hb:bound len x d=some n) :
  (v=none/\n=d)\/∃ k m,v=some (.int k m)/\0<=m/\m<=len/\n=m.toNat:=by
 cases x with
 | none =>
  cases v with
  | none=>simp[bound]at hb;exact .inl ⟨rfl,hb.symm⟩
  | some _=>exact hx.elim
 | some a =>
  cases v with
  | none=>exact hx.elim
  | some b =>
   simp only[pJ0]at hx
   unfold bound at hb
   split at hb
   ·cases ‹some a=none›
   ·rename_i k m e
    cases e
    split at hb
    ·rename_i hm
     cases hb
     cases hx
     exact .inr ⟨k,m,rfl,hm.1,hm.2,rfl⟩
    ·cases hb
   ·cases hb
theorem K8{P:Program}{G:j4}{w:World}(isSlice:Bool){len cap h l:Nat}{hi lo:Option AV}{hv lv:Option Value}(hh:pJ0 G hi hv)(hl:pJ0 G lo lv)(hlc:len<=cap)
  (b1:bound len hi len=some h) (b2:bound h lo 0=some l):(Instr.sliceBounds isSlice len cap lv hv none).run P w=.ok (l,h,cap) w/\h<=len/\l<=h:=by
 rcases gy0 hh b1 with ⟨rfl,rfl⟩ | ⟨k,m,rfl,h1,h2,rfl⟩
 ·rcases gy0 hl b2 with ⟨rfl,rfl⟩ | ⟨k',m',rfl,h3,h4,rfl⟩
  ·exact⟨by simp[Instr.sliceBounds],by omega,by omega⟩
  ·refine⟨?_,by omega,by omega⟩
   simp[Instr.sliceBounds,Instr.sliceBound,asIntOf,h3,h4]
 ·have hmc:m<=(cap:Int):=by omega
  rcases gy0 hl b2 with ⟨rfl,rfl⟩ | ⟨k',m',rfl,h3,h4,rfl⟩
  ·exact⟨by simp[Instr.sliceBounds,Instr.sliceBound,asIntOf,h1,hmc],by omega,by omega⟩
  ·refine⟨?_,by omega,by omega⟩
   have h5:m'<=max m 0:=by omega
   simp[Instr.sliceBounds,Instr.sliceBound,asIntOf,h1,hmc,h3,h5]
theorem ra0{P:Program}{T:Tab}(hT:C2 P T){G:j4}{σ:c9}{w:World}(h:Rel G σ w){t:TypeId}{id:Nat}{x v:AV}{lo hi mx:Option AV}{u:Value}{lv hv mv:Option Value}(hx:Rep G x u)
  (hl:pJ0 G lo lv) (hh:pJ0 G hi hv) (hm:pJ0 G mx mv)
  (ha:bt0 T t x lo hi mx=some v):J4 G σ w σ id v ((Instr.sliceAt t u lv hv mv).run P w):=by
 unfold bt0 at ha
 split at ha
 ·rename_i elem _ _ _ _ ht
  cases mv with
  | some _=>exact hm.elim
  | none =>
  split at ha
  ·rename_i ei i size off len he
   split at ha
   case isFalse=>cases ha
   rename_i hse
   split at ha
   ·rename_i h' b1
    split at ha
    ·rename_i l b2
     cases ha
     cases hx with
     | msNil _ _ p hp hvt =>
      obtain⟨hr,h3,h4⟩:=K8 (P:=P) (w:=w) (cap:=0) true hh hl (Nat.zero_le _) b1 b2
      obtain rfl:h'=0:=by omega
      obtain rfl:l=0:=by omega
      simp only[Instr.sliceAt,Instr.slice,Sem.run_bind,B3 hT ht,Result.andThen_ok,hr,F5 hT he,Sem.run_pure]
      exact J4.same (.msNil _ _ p hp hvt) h
     | ms _ _ _ _ p hp hvt hz a c hA hoff hlc hsp =>
      obtain⟨hr,h3,h4⟩:=K8 (P:=P) (w:=w) (cap:=c) true hh hl hlc b1 b2
      have hps:p.size=ei.size:=by rw[hz];exact hse
      simp only[Instr.sliceAt,Instr.slice,Sem.run_bind,B3 hT ht,Result.andThen_ok,hr,F5 hT he,Sem.run_pure]
      refine J4.same ?_ h
      by_cases e:c=l
      ·rw[if_pos e]
       exact .ms _ _ _ _ p hp hvt hz a (c-l) (fun hne=>by omega) (by omega) (by omega) hsp
      ·rw[if_neg e,hA (by omega)]
       simp only[Option.map_some,L4]
       exact .ms _ _ _ _ p hp hvt hz _ (c-l) (fun _=>by rw[<- hps,Nat.add_mul]) (by omega) (by omega) rfl
    ·cases ha
   ·cases ha
  ·rename_i ei es he
   split at ha
   ·rename_i h' b1
    split at ha
    ·rename_i l b2
     split at ha
     ·rename_i hall
      cases ha
      cases hx with
      | rsNil =>
       obtain⟨hr,h3,h4⟩:=K8 (P:=P) (w:=w) (cap:=0) true hh hl (Nat.zero_le _) b1 b2
       simp at h3;subst h3
       obtain rfl:l=0:=by omega
       simp only[Instr.sliceAt,Instr.slice,Sem.run_bind,B3 hT ht,Result.andThen_ok,hr,F5 hT he,Sem.run_pure]
       exact J4.same .rsNil h
      | rs es a cap size val hs hc hlen himm hrep =>
       obtain⟨hr,h3,h4⟩:=K8 (P:=P) (w:=w) (cap:=cap) true hh hl hc b1 b2
       obtain⟨b,o,sp⟩:=a
       simp only[Instr.sliceAt,Instr.slice,Sem.run_bind,B3 hT ht,Result.andThen_ok,hr,F5 hT he,Sem.run_pure]
       refine J4.same ?_ h
       have hL:((es.take h').drop l).length=h'-l:=by simp;omega
       have O3:∀ i (hi:i<((es.take h').drop l).length),((es.take h').drop l)[i]=es[l+i]'(by rw[hL]at hi;omega):=fun i hi=>by simp
       by_cases e:cap=l
       ·rw[if_pos e,<-hL]
        have h0:h'-l=0:=by omega
        exact .rs _ _ _ size val (fun h=>absurd (by omega) h) (by rw[hL];omega) (fun i hi=>by rw[hL]at hi;omega) (fun i j hi=>by rw[hL]at hi;omega) (fun i j hi=>by rw[hL]at hi;omega)
       ·rw[if_neg e]
        have hs:=hs (by omega)
        simp at hs;subst hs
        simp only[Option.map_some,L4]
        rw[<- hL]
        refine .rs _ _ _ size (fun i j=>val (l+i) j) (fun _=>rfl) (by rw[hL];omega) (fun i hi=>by rw[O3 i hi];exact hlen _ _) (fun i j hi hj=>?_) (fun i j hi hj=>?_)
        ·rw[hL]at hi
         have hse:size=ei.size:=by
          have:=List.all_eq_true.1 hall (es[l+i]'(by omega)) (List.getElem_mem _)
          rw[hlen]at this
          simpa using this
         have:=himm (l+i) j (by omega) hj
         rw[<- hse]
         rw[Nat.add_mul]at this
         simpa[Nat.add_assoc]using this
        ·have hi':=hi
         rw[hL]at hi'
         have:=hrep (l+i) j (by omega) (by rw[O3 i hi]at hj;exact hj)
         simpa using this
     ·cases ha
    ·cases ha
   ·cases ha
  ·rename_i ei he
   split at ha
   ·rename_i h' b1
    split at ha
    ·rename_i l b2
     cases ha
     cases hx
     obtain⟨hr,h3,h4⟩:=K8 (P:=P) (w:=w) (cap:=0) true hh hl (Nat.zero_le _) b1 b2
     obtain rfl:h'=0:=by omega
     obtain rfl:l=0:=by omega
     simp only[Instr.sliceAt,Instr.slice,Sem.run_bind,B3 hT ht,Result.andThen_ok,hr,F5 hT he,Sem.run_pure]
     exact J4.same (.sc _) h
    ·cases ha
   ·cases ha
  ·cases ha
 ·rename_i _ _ _ _ ht
  cases mv with
  | some _=>exact hm.elim
  | none =>
  split at ha
  ·rename_i s
   split at ha
   ·rename_i h' b1
    split at ha
    ·rename_i l b2
     cases ha
     cases hx
     obtain⟨hr,h3,h4⟩:=K8 (P:=P) (w:=w) (cap:=s.size) false hh hl (Nat.le_refl _) b1 b2
     simp only[Instr.sliceAt,Instr.slice,Sem.run_bind,B3 hT ht,Result.andThen_ok,Option.isSome_none,Bool.false_eq_true,if_false,hr,Sem.run_pure]
     exact J4.same (.sc _) h
    ·cases ha
   ·cases ha
  ·cases ha
 ·cases ha
end Go.Ab
namespace Go.Ab
open Go
variable [B0]
def tI0(op:BinOp)(x y:Value):Option Value :=
 match x,y with
 | .int k a,.int k' b =>
  match op with
  | .shl=>if b<0 then none else some (.int k (k.wrap (a*2^(min b.toNat k.bits))))
  | .shr=>if b<0 then none else some (.int k (a.fdiv (2^(min b.toNat k.bits))))
  | _=>if k≠k' then none else
   match op with
   | .add=>some (.int k (k.wrap (a+b)))
   | .sub=>some (.int k (k.wrap (a-b)))
   | .mul=>some (.int k (k.wrap (a*b)))
   | .quo=>if b=0 then none else some (.int k (k.wrap (a.tdiv b)))
   | .rem=>if b=0 then none else some (.int k (a.tmod b))
   | .and=>some (.int k (k.wrap (BitVec.ofInt k.bits a &&& BitVec.ofInt k.bits b).toNat))
   | .or=>some (.int k (k.wrap (BitVec.ofInt k.bits a ||| BitVec.ofInt k.bits b).toNat))
   | .xor=>some (.int k (k.wrap (BitVec.ofInt k.bits a ^^^ BitVec.ofInt k.bits b).toNat))
   | .andNot=>some (.int k (k.wrap (BitVec.ofInt k.bits a &&& ~~~(BitVec.ofInt k.bits b)).toNat))
   | .eql=>some (.bool (a==b))
   | .neq=>some (.bool (a != b))
   | .lss=>some (.bool (a<b))
   | .leq=>some (.bool (a<=b))
   | .gtr=>some (.bool (a > b))
   | .geq=>some (.bool (a>=b))
   | _=>none
 | .string a,.string b =>
  match op with
  | .add=>if ((a.size+b.size:Nat):Int) > IntKind.i64.max then none else some (.string (a++b))
  | .eql=>some (.bool (a.toList==b.toList))
  | .neq=>some (.bool !(a.toList==b.toList))
  | _=>none
 | _,_=>none
theorem xF0{P:Program}{w:World}{op:BinOp}{t:TypeId}{x y v:Value}{ox oy:Operand}(h:tI0 op x y=some v) :
  (do eqGuard op t ox oy x y;binOp op t x y:Sem Value).run P w=.ok v w:=by
 unfold tI0 at h
 split at h
 ·rename_i k a k' b
  have hg:(eqGuard op t ox oy (.int k a) (.int k' b)).run P w=.ok () w:=by unfold eqGuard;simp
  simp only[Sem.run_bind,hg,Result.andThen_ok]
  cases op
  case shl =>
   simp only[]at h
   split at h
   ·cases h
   ·rename_i hh;cases h;simp[binOp,Op.shift,hh]
  case shr =>
   simp only[]at h
   split at h
   ·cases h
   ·rename_i hh;cases h;simp[binOp,Op.shift,hh]
  all_goals
   simp only[]at h
   split at h
   ·cases h
   rename_i hh
   obtain rfl:k=k':=Classical.not_not.1 hh
  case h_1.quo.isFalse =>
   split at h
   ·cases h
   ·rename_i h0;cases h;simp[binOp,Op.intDiv,h0]
  case h_1.rem.isFalse =>
   split at h
   ·cases h
   ·rename_i h0;cases h;simp[binOp,Op.intDiv,h0]
  all_goals
   cases h
   simp[binOp,Op.intArith,Op.intBits,Op.intCmp]
 ·rename_i a b
  have hg:(eqGuard op t ox oy (.string a) (.string b)).run P w=.ok () w:=by unfold eqGuard;simp
  simp only[Sem.run_bind,hg,Result.andThen_ok]
  cases op<;>simp only[]at h<;>first
   | (cases h;done)
   | (cases h;simp[binOp,Op.stringOp];done)
   | (split at h<;>first | (cases h;done) | (rename_i hh;cases h;simp only[binOp,Op.stringOp];rw[if_neg hh];rfl))
 ·cases h
theorem AV.i64s_ok{G:j4}:∀ {cs:List AV} {l:List Int} {vs:List Value},AV.i64s cs=some l->B7 G cs vs->vs=l.map (Value.int .i64)
 | [],l,vs,h,hr=>by simp[AV.i64s]at h;subst h;rw[hr.nil_inv];rfl
 | c::cs,l,vs,h,hr=>by
  obtain⟨v,vs',rfl,h1,h2⟩:=hr.cons_inv
  unfold AV.i64s at h
  split at h
  ·rename_i e;cases e
  ·rename_i n cs' e
   cases e
   split at h
   ·rename_i l' hl
    cases h
    cases h1
    rw[AV.i64s_ok hl h2];rfl
   ·cases h
  ·cases h
def AV.isNil:AV->Option Bool
 | .sc (.slice none 0 0)=>some true
 | .rs (_::_)=>some false
 | .ms _ _ _ (_+1)=>some false
 | _=>none
theorem AV.isNil_ok{G:j4}{x:AV}{u:Value}{b:Bool}(h:x.isNil=some b)(hx:Rep G x u):∃ a l c,u=.slice a l c/\a.isNone=b:=by
 unfold AV.isNil at h
 split at h
 ·cases h;cases hx;exact⟨_,_,_,rfl,rfl⟩
 ·cases h
  cases hx
  exact⟨_,_,_,rfl,rfl⟩
 ·cases h
  cases hx
  exact⟨_,_,_,rfl,rfl⟩
 ·cases h
theorem aA0{P:Program}(w:World)(d:Nat)(t elem:TypeId)(a:Option Addr)(l c:Nat)(hu:P.underlying t=some (.slice elem)) :
  (Op.equalIn (d+1) t (.slice a l c) (.slice none 0 0)).run P w=.ok a.isNone w:=by
 cases a with
 | none=>simp[Op.equalIn,underlying,hu]
 | some a=>simp[Op.equalIn,underlying,hu]
def im0(T:Tab)(op:BinOp)(t:TypeId)(x y:AV):Option AV :=
 match x,y with
 | x,.sc (.slice none 0 0) =>
  match T t,x.isNil with
  | some { und:=.slice _,.. },some b=>match op with
   | .eql=>some (.sc (.bool b))
   | .neq=>some (.sc (.bool !b))
   | _=>none
  | _,_=>none
 | .sc (.bool a),.sc (.bool b) =>
  match T t with
  | some { und:=.bool,.. }=>match op with
   | .eql=>some (.sc (.bool (a==b)))
   | .neq=>some (.sc (.bool !(a==b)))
   | _=>none
  | _=>none
 | .sc a,.sc b=>match tI0 op a b with
  | some v=>some (.sc v)
  | none=>none
 | .agg cs,.agg ds =>
  match AV.i64s cs,AV.i64s ds,T t with
  | some as,some bs,some ti=>if ti.flat=some as.length/\bs.length=as.length then
    match op with
    | .eql=>some (.sc (.bool (as==bs)))
    | .neq=>some (.sc (.bool !(as==bs)))
    | _=>none
   else none
  | _,_,_=>none
 | _,_=>none
theorem xq0{P:Program}{T:Tab}(hT:C2 P T){G:j4}{σ:c9}{w:World}(h:Rel G σ w){op:BinOp}{t:TypeId}{id:Nat}{x y v:AV}{u z:Value}{ox oy:Operand}(hx:Rep G x u)(hy:Rep G y z)
  (ha:im0 T op t x y=some v):J4 G σ w σ id v ((do eqGuard op t ox oy u z;binOp op t u z:Sem Value).run P w):=by
 unfold im0 at ha
 split at ha
 ·cases hy
  split at ha
  ·rename_i ht hn
   obtain⟨a,l,c,rfl,hb⟩:=AV.isNil_ok hn hx
   have hg:(eqGuard op t ox oy (.slice a l c) (.slice none 0 0)).run P w=.ok () w:=by unfold eqGuard;simp
   simp only[Sem.run_bind,hg,Result.andThen_ok]
   have hu:=hT.und t _ ht
   split at ha
   ·cases ha
    simp only[binOp,Op.equal,Op.maxDepth,Sem.run_bind,aA0 w 9999 t _ a l c hu,Result.andThen_ok,Sem.run_pure,hb]
    exact J4.same (.sc _) h
   ·cases ha
    simp only[binOp,Op.equal,Op.maxDepth,Sem.run_bind,aA0 w 9999 t _ a l c hu,Result.andThen_ok,Sem.run_pure,hb]
    exact J4.same (.sc _) h
   ·cases ha
  ·cases ha
 ·rename_i a b
  cases hx;cases hy
  have hg:(eqGuard op t ox oy (.bool a) (.bool b)).run P w=.ok () w:=by unfold eqGuard;simp
  simp only[Sem.run_bind,hg,Result.andThen_ok]
  split at ha
  ·rename_i ht
   have hu:=hT.und t _ ht
   split at ha
   ·cases ha
    simp only[binOp,Op.equal,Op.maxDepth,Sem.run_bind,run_equalIn_bool' w 9999 t a b hu,Result.andThen_ok,Sem.run_pure]
    exact J4.same (.sc _) h
   ·cases ha
    simp only[binOp,Op.equal,Op.maxDepth,Sem.run_bind,run_equalIn_bool' w 9999 t a b hu,Result.andThen_ok,Sem.run_pure]
    exact J4.same (.sc _) h
   ·cases ha
  ·cases ha
 ·rename_i a b _
  cases hx;cases hy
  split at ha
  ·rename_i v' hv
   cases ha
   rw[xF0 hv]
   exact J4.same (.sc _) h
  ·cases ha
 ·rename_i cs ds
  split at ha
  ·rename_i as bs ti h1 h2 ht
   split at ha
   ·rename_i hc
    obtain⟨hf,hlen⟩:=hc
    obtain⟨hgt,heq⟩:=hT.flat t ti _ ht hf
    cases hx with
    | agg _ xs hx1 hx2 =>
    cases hy with
    | agg _ ys hy1 hy2 =>
    have e1:=AV.i64s_ok h1 ⟨hx1,hx2⟩
    have e2:=AV.i64s_ok h2 ⟨hy1,hy2⟩
    subst e1 e2
    have hrun:=(heq as bs w rfl hlen).1
    have hg:(eqGuard op t ox oy (.agg (as.map (Value.int .i64)).toArray) (.agg (bs.map (Value.int .i64)).toArray)).run P w=.ok () w:=by
     unfold eqGuard;simp[hgt]
    simp only[Sem.run_bind,hg,Result.andThen_ok]
    split at ha
    ·cases ha
     simp only[binOp,Op.equal,Op.maxDepth,Sem.run_bind,hrun,Result.andThen_ok,Sem.run_pure]
     exact J4.same (.sc _) h
    ·cases ha
     simp only[binOp,Op.equal,Op.maxDepth,Sem.run_bind,hrun,Result.andThen_ok,Sem.run_pure]
     exact J4.same (.sc _) h
    ·cases ha
   ·cases ha
  ·cases ha
 ·cases ha
def aUn(op:UnOp)(x:AV):Option AV :=
 match op,x with
 | .neg,.sc (.int k n)=>some (.sc (.int k (k.wrap (0-n))))
 | .not,.sc (.bool b)=>some (.sc (.bool !b))
 | _,_=>none
theorem aUn_ok{P:Program}{G:j4}{σ:c9}{w:World}(h:Rel G σ w){op:UnOp}{id:Nat}{x v:AV}{u:Value}(hx:Rep G x u)(ha:aUn op x=some v) :
  J4 G σ w σ id v ((Op.unary op u).run P w):=by
 unfold aUn at ha
 split at ha
 ·cases ha;cases hx
  simp only[Op.unary,Op.intArith,Sem.run_pure]
  exact J4.same (.sc _) h
 ·cases ha;cases hx
  simp only[Op.unary,Sem.run_pure]
  exact J4.same (.sc _) h
 ·cases ha
def jz0(T:Tab)(src dst:TypeId)(x:AV):Option AV :=
 match T src,T dst,x with
 | some _,some { und:=.int k,.. },.sc (.int _ n)=>some (.sc (.int k (k.wrap n)))
 | _,_,_=>none
theorem tM0{P:Program}{T:Tab}(hT:C2 P T){G:j4}{σ:c9}{w:World}(h:Rel G σ w){src dst:TypeId}{id:Nat}{x v:AV}{u:Value}(hx:Rep G x u)(ha:jz0 T src dst x=some v) :
  J4 G σ w σ id v ((convert src dst u).run P w):=by
 unfold jz0 at ha
 split at ha
 ·rename_i si k _ _ _ _ k' n hs hd
  cases ha;cases hx
  simp only[convert,Sem.run_bind,B3 hT hs,B3 hT hd,Result.andThen_ok,Conv.intToInt,Sem.run_pure]
  exact J4.same (.sc _) h
 ·cases ha
def bN0(x:AV)(i:Nat):Option AV :=
 match x with
 | .tup vs=>vs[i]?
 | _=>none
theorem mw0{P:Program}{G:j4}{σ:c9}{w:World}(h:Rel G σ w){i id:Nat}{x v:AV}{u:Value}(hx:Rep G x u)(ha:bN0 x i=some v) :
  J4 G σ w σ id v ((Instr.extract u i).run P w):=by
 unfold bN0 at ha
 split at ha
 ·cases hx with
  | tup cs vs h1 h2 =>
   obtain⟨z,hz,hr⟩:=B7.get (G:=G) ⟨h1,h2⟩ ha
   simp only[Instr.extract,List.getElem?_toArray,hz,Sem.run_pure]
   exact J4.same hr h
 ·cases ha
def eD0(place:Nat->Option (Nat×Nat))(cells:List AV):List (Nat×AV)->Option (List AV)
 | []=>some cells
 | (i,v)::rest =>
  match place i,v.cells with
  | some (off,size),some vs=>if vs.length=size/\off+vs.length<=cells.length then eD0 place (N6 cells off vs) rest else none
  | _,_=>none
theorem lD0(off:Nat):∀ (vs:List Value) (j:Nat) (cs:Array Value),off+j+vs.length<=cs.size ->
  ((vs.zipIdx j).foldl (fun cs (x:Value×Nat)=>cs.setIfInBounds (off+x.2) x.1) cs).toList=cs.toList.take (off+j)++vs++cs.toList.drop (off+j+vs.length)
 | [],j,cs,_=>by simp
 | v::vs,j,cs,h=>by
  simp only[List.length_cons]at h
  rw[List.zipIdx_cons,List.foldl_cons,lD0 off vs (j+1) _ (by simp;omega)]
  have hlt:off+j<cs.toList.length:=by simp;omega
  simp only[Array.toList_setIfInBounds]
  rw[List.take_set,List.drop_set,if_pos (by omega)]
  have e1:List.set (List.take (off+(j+1)) cs.toList) (off+j) v=List.take (off+j) cs.toList++[v]:=by
   have hm:min (off+j) cs.toList.length=off+j:=by omega
   rw[<- Nat.add_assoc,List.take_succ_eq_append_getElem hlt,List.set_append]
   simp only[List.length_take,hm,Nat.lt_irrefl,if_false,Nat.sub_self]
   rfl
  rw[e1]
  simp
  omega
theorem mZ0{G:j4}{cs vs:List AV}{us ys:List Value}(h:B7 G cs us)(hv:B7 G vs ys)(off:Nat):B7 G (N6 cs off vs) (us.take off++ys++us.drop (off+ys.length)):=by
 unfold N6
 rw[hv.1]
 exact((h.take off).append hv).append (h.drop _)
theorem gj0{G:j4}{place:Nat->Option (Nat×Nat)}:∀ {parts:List (Nat×AV)} {vparts:List (Nat×Value)} {cs out:List AV} {us:Array Value},B7 G cs us.toList ->
  (parts.map (·.1)=vparts.map (·.1))->B7 G (parts.map (·.2)) (vparts.map (·.2))->eD0 place cs parts=some out->∃ ys:Array Value,Instr.fill place us vparts=some ys/\B7 G out ys.toList
 | [],vparts,cs,out,us,h,he,hr,ha=>by
  cases vparts with
  | nil=>simp[eD0]at ha;subst ha;exact⟨us,rfl,h⟩
  | cons _ _=>simp at he
 | (i,v)::rest,vparts,cs,out,us,h,he,hr,ha=>by
  cases vparts with
  | nil=>simp at he
  | cons p vrest =>
   obtain⟨i',z⟩:=p
   simp only[List.map_cons,List.cons.injEq]at he hr
   obtain⟨rfl,he⟩:=he
   obtain⟨z',zs',e,h1,h2⟩:=hr.cons_inv
   simp only[List.cons.injEq]at e
   obtain⟨rfl,rfl⟩:=e
   unfold eD0 at ha
   split at ha
   ·rename_i off size vs hp hc
    split at ha
    ·rename_i hcond
     have hcells:=h1.cells hc
     have hL:z.cells.size=vs.length:=by have:=hcells.1;simpa using this
     have hU:us.size=cs.length:=by have:=h.1;simpa using this
     have hput:((z.cells.zipIdx).foldl (fun cs (x:Value×Nat)=>cs.setIfInBounds (off+x.2) x.1) us).toList=us.toList.take off++z.cells.toList++us.toList.drop (off+z.cells.toList.length):=by
      have:=lD0 off z.cells.toList 0 us (by simp;omega)
      simp only[Nat.add_zero]at this
      rw[<- this,<-Array.foldl_toList];simp
     obtain⟨ys,hy1,hy2⟩:=gj0 (us:=(z.cells.zipIdx).foldl (fun cs (x:Value×Nat)=>cs.setIfInBounds (off+x.2) x.1) us) (by rw[hput];exact mZ0 h hcells off) he h2 ha
     refine⟨ys,?_,hy2⟩
     simp only[Instr.fill,hp]
     rw[if_neg (by simp;omega)]
     exact hy1
    ·cases ha
   ·cases ha
end Go.Ab
namespace Go.Ab
open Go
variable [B0]
theorem B1{α:Type}{size:Nat}:∀ {es:List (List α)},(∀ c∈es,c.length=size)->es.flatten.length=es.length*size
 | [],_=>by simp
 | c::es,h=>by
  rw[List.flatten_cons,List.length_append,B1 (fun c hc=>h c (by simp[hc])),h c (by simp),List.length_cons,Nat.add_mul];omega
theorem aE0{α:Type}{size:Nat}:∀ {es:List (List α)},(∀ c∈es,c.length=size)->∀ (i j:Nat) (c:List α),es[i]?=some c->j<size->es.flatten[i*size+j]?=c[j]?
 | [],_,i,j,c,h,_=>by simp at h
 | d::es,hl,0,j,c,h,hj=>by
  simp at h;subst h
  rw[List.flatten_cons,Nat.zero_mul,Nat.zero_add,List.getElem?_append,if_pos (by rw[hl d (by simp)];exact hj)]
 | d::es,hl,i+1,j,c,h,hj=>by
  have hd:d.length=size:=hl d (by simp)
  have ih:=aE0 (es:=es) (fun c hc=>hl c (List.mem_cons_of_mem _ hc)) i j c (by simpa using h) hj
  rw[List.flatten_cons,List.getElem?_append,if_neg (by rw[hd,Nat.add_mul];omega),<-ih,hd,Nat.add_mul]
  congr 1;omega
theorem hY0{G:j4}{es:List (List AV)}{size:Nat}{cells:Array Value}(hl:∀ c∈es,c.length=size){vs:List Value}(h:B7 G es.flatten vs)(hv:∀ (k:Nat) (v:Value),vs[k]?=some v->cells[k]?=some v) :
  ∀ i (hi:i<es.length),es[i].length=size/\∀ j (hj:j<es[i].length) (h':i*size+j<cells.size),Rep G es[i][j] cells[i*size+j]:=by
 intro i hi
 refine⟨hl _ (List.getElem_mem hi),fun j hj h'=>?_⟩
 have hj2:j<size:=by rw[<- hl _ (List.getElem_mem hi)];exact hj
 have hg:=aE0 hl i j es[i] (List.getElem?_eq_getElem hi) hj2
 rw[List.getElem?_eq_getElem hj]at hg
 obtain⟨v,h1,h2⟩:=h.get hg
 have:=hv _ _ h1
 rw[Array.getElem?_eq_getElem h']at this
 cases this
 exact h2
theorem dH0{G:j4}{es:List (List AV)}{size:Nat}{cells:Array Value}(hrow:∀ i (h:i<es.length),es[i].length=size/\∀ j (hj:j<es[i].length) (h':i*size+j<cells.size),Rep G es[i][j] cells[i*size+j])
  (hn:es.length*size<=cells.size):B7 G es.flatten (cells.toList.take (es.length*size)):=by
 have hl:∀ c∈es,c.length=size:=fun c hc=>by obtain⟨i,hi,rfl⟩:=List.getElem_of_mem hc;exact(hrow i hi).1
 refine⟨by rw[B1 hl];simp;omega,fun k hk hk'=>?_⟩
 rw[B1 hl]at hk
 by_cases hs:size=0
 ·subst hs;simp at hk
 have hi:k / size<es.length:=(Nat.div_lt_iff_lt_mul (by omega)).2 hk
 have hj:k%size<size:=Nat.mod_lt _ (by omega)
 have hkk:k / size*size+k%size=k:=by rw[Nat.mul_comm];exact Nat.div_add_mod k size
 have hg:=aE0 hl (k / size) (k%size) es[k / size] (List.getElem?_eq_getElem hi) hj
 have hlen:=(hrow _ hi).1
 rw[hkk,List.getElem?_eq_getElem (show k<es.flatten.length by rw[B1 hl];exact hk),List.getElem?_eq_getElem (show k%size<es[k / size].length by rw[hlen];exact hj)]at hg
 have hr:=(hrow _ hi).2 (k%size) (by rw[hlen];exact hj) (by rw[hkk];omega)
 simp only[Option.some.injEq]at hg
 rw[hg]
 simp only[hkk]at hr
 simpa using hr
theorem dl0{size:Nat}:∀ {es:List (List AV)},(∀ c∈es,c.length=size)->∀ (i:Nat) (vs:List AV),i<es.length->vs.length=size->N6 es.flatten (i*size) vs=(es.set i vs).flatten
 | [],_,i,vs,h,_=>by simp at h
 | d::es,hl,0,vs,_,hv=>by
  have hd:d.length=size:=hl d (by simp)
  simp only[N6,List.flatten_cons,Nat.zero_mul,List.take_zero,List.nil_append,Nat.zero_add,List.set_cons_zero,List.append_cancel_left_eq]
  rw[hv,<-hd,List.drop_left]
 | d::es,hl,i+1,vs,h,hv=>by
  have hd:d.length=size:=hl d (by simp)
  have ih:=dl0 (es:=es) (fun c hc=>hl c (List.mem_cons_of_mem _ hc)) i vs (by simpa using h) hv
  simp only[List.set_cons_succ,List.flatten_cons,<-ih,N6,hv]
  have e1:(i+1)*size=d.length+i*size:=by rw[hd,Nat.add_mul];omega
  have e2:(i+1)*size+size=d.length+(i*size+size):=by rw[hd,Nat.add_mul];omega
  rw[e1,List.take_length_add_append,<-e1,e2,List.drop_append]
  simp[List.append_assoc]
def Q7(size:Nat)(es:List (List AV)):List (Nat×AV)->Option (List (List AV))
 | []=>some es
 | (i,v)::rest=>match v.cells with
  | some vs=>if vs.length=size/\i<es.length then Q7 size (es.set i vs) rest else none
  | none=>none
theorem dV0{size:Nat}:∀ {parts:List (Nat×AV)} {es out:List (List AV)},(∀ c∈es,c.length=size)->Q7 size es parts=some out ->
  eD0 (fun i=>some (i*size,size)) es.flatten parts=some out.flatten/\out.length=es.length/\∀ c∈out,c.length=size
 | [],es,out,hl,h=>by simp[Q7]at h;subst h;exact⟨rfl,rfl,hl⟩
 | (i,v)::rest,es,out,hl,h=>by
  unfold Q7 at h
  split at h
  ·rename_i vs hc
   split at h
   ·rename_i hcond
    have hl':∀ c∈es.set i vs,c.length=size:=fun c hc=>by
     rcases List.mem_or_eq_of_mem_set hc with h1 | h1
     ·exact hl c h1
     ·rw[h1];exact hcond.1
    obtain⟨h1,h2,h3⟩:=dV0 hl' h
    refine⟨?_,by rw[h2];simp,h3⟩
    have hle:i*size+vs.length<=es.flatten.length:=by
     rw[B1 hl,hcond.1]
     have:(i+1)*size<=es.length*size:=Nat.mul_le_mul_right _ hcond.2
     rw[Nat.add_mul]at this;omega
    simp only[eD0,hc]
    rw[if_pos ⟨hcond.1,hle⟩,dl0 hl i vs hcond.2 hcond.1]
    exact h1
   ·cases h
  ·cases h
theorem rr0(zero:Array Value)(n:Nat)(hz:0<zero.size):(((Array.range (n*zero.size)).map (zero[·%zero.size]!)).toList).map AV.sc=(List.replicate n (zero.toList.map AV.sc)).flatten:=by
 apply List.ext_getElem?
 intro k
 have hl:∀ c∈List.replicate n (zero.toList.map AV.sc),c.length=zero.size:=fun c hc=>by
  rw[List.eq_of_mem_replicate hc];simp
 by_cases hk:k<n*zero.size
 ·have hi:k / zero.size<n:=(Nat.div_lt_iff_lt_mul hz).2 hk
  have hj:k%zero.size<zero.size:=Nat.mod_lt _ hz
  have hkk:k / zero.size*zero.size+k%zero.size=k:=by rw[Nat.mul_comm];exact Nat.div_add_mod k zero.size
  have:=aE0 hl (k / zero.size) (k%zero.size) (zero.toList.map AV.sc) (by simp[hi]) hj
  rw[hkk]at this
  rw[this]
  simp[hk,hj]
 ·rw[List.getElem?_eq_none (by simp;omega),List.getElem?_eq_none (by rw[B1 hl];simp;omega)]
end Go.Ab
namespace Go.Ab
open Go
variable [B0]
def places(T:Tab):List Field->Option (List (Nat×Nat))
 | []=>some []
 | f::fs=>match T f.type,places T fs with
  | some fi,some l=>some ((f.offset,fi.size)::l)
  | _,_=>none
theorem run_places{P:Program}{T:Tab}(hT:C2 P T)(w:World):∀ {fs:List Field} {l:List (Nat×Nat)},places T fs=some l ->
  (fs.mapM (fun f:Field=>do pure (f.offset,<-sizeOf f.type)):Sem (List (Nat×Nat))).run P w=.ok l w
 | [],l,h=>by simp[places]at h;subst h;simp
 | f::fs,l,h=>by
  unfold places at h
  split at h
  ·rename_i fi l' hf hl
   cases h
   have ih:=run_places hT w hl
   simp only[List.mapM_cons,Sem.run_bind,F5 hT hf,Result.andThen_ok,Sem.run_pure,ih]
  ·cases h
def fv0(T:Tab)(t:TypeId)(parts:List (Nat×AV)):Option AV :=
 match T t with
 | some { und:=.struct fields,zero:=z,.. } =>
  match places T fields.toList with
  | some l=>match eD0 (l[·]?) (z.cells.toList.map .sc) parts with
   | some cs=>some (.agg cs)
   | none=>none
  | none=>none
 | some { und:=.array _ elem,zero:=z,.. } =>
  match T elem with
  | some ei=>match eD0 (fun i=>some (i*ei.size,ei.size)) (z.cells.toList.map .sc) parts with
   | some cs=>some (.agg cs)
   | none=>none
  | none=>none
 | _=>none
theorem rS0{P:Program}{T:Tab}(hT:C2 P T){G:j4}{σ:c9}{w:World}(h:Rel G σ w){t:TypeId}{id:Nat}{parts:List (Nat×AV)}{vparts:List (Nat×Value)}{v:AV}
  (he:parts.map (·.1)=vparts.map (·.1)) (hr:B7 G (parts.map (·.2)) (vparts.map (·.2))) (ha:fv0 T t parts=some v) :
  J4 G σ w σ id v ((Instr.build t vparts.toArray).run P w):=by
 unfold fv0 at ha
 split at ha
 ·rename_i fields _ z _ _ ht
  split at ha
  ·rename_i l hl
   split at ha
   ·rename_i cs hf
    cases ha
    obtain⟨ys,hy1,hy2⟩:=gj0 (us:=z.cells) (B7.sc G _) he hr hf
    have hp:(fields.mapM (fun f:Field=>do pure (f.offset,<-sizeOf f.type)):Sem (Array (Nat×Nat))).run P w=.ok l.toArray w:=by
     rw[Array.mapM_eq_mapM_toList]
     have:=run_places hT w hl
     simp only[Sem.run_map,this,Result.andThen_ok]
    simp only[Instr.build,Sem.run_bind,ad0 hT ht,B3 hT ht,Result.andThen_ok,hp,List.getElem?_toArray,hy1,Sem.run_pure]
    refine J4.same ?_ h
    have:=Rep.agg (G:=G) cs ys.toList hy2.1 hy2.2
    simpa using this
   ·cases ha
  ·cases ha
 ·rename_i n elem _ z _ _ ht
  split at ha
  ·rename_i ei hei
   split at ha
   ·rename_i cs hf
    cases ha
    obtain⟨ys,hy1,hy2⟩:=gj0 (us:=z.cells) (B7.sc G _) he hr hf
    simp only[Instr.build,Sem.run_bind,ad0 hT ht,B3 hT ht,F5 hT hei,Result.andThen_ok,hy1,Sem.run_pure]
    refine J4.same ?_ h
    have:=Rep.agg (G:=G) cs ys.toList hy2.1 hy2.2
    simpa using this
   ·cases ha
  ·cases ha
 ·cases ha
theorem kO0{P:Program}{G:j4}{σ:c9}{w:World}(h:Rel G σ w)(t:TypeId)(cells:Array Value)(es:List (List AV))(size cap:Nat)(hl:∀ c∈es,c.length=size){vs:List Value}(hr:B7 G es.flatten vs)
  (hv:∀ (k:Nat) (v:Value),vs[k]?=some v->cells[k]?=some v) (hn:cells.size=cap*size) (hcap:es.length<=cap) (id:Nat) (hid:G.pl id=none) (hlt:id<σ.next) :
  ∃ p:Pl,p.block=w.heap.size/\p.size=size/\p.cap=cap/\p.virt=false/\Rel (G.place id p) (σ.set id (.row t size es)) { w with heap:=w.heap.push (.cells cells t) }:=by
 refine⟨{ block:=w.heap.size,size:=size,cap:=cap },rfl,rfl,rfl,rfl,?_⟩
 exact h.push (.cells cells t) id hid hlt _ rfl rfl (.row t size es) ⟨cells,rfl,rfl,hn,hcap,hY0 hl (hr.mono (j4.place_le hid)) hv⟩
def I0(T:Tab)(σ:c9)(id:Nat)(t:TypeId)(len:Nat)(parts:List (Nat×AV)):Option (AV×c9) :=
 match T t with
 | some { und:=.slice elem,.. } =>
  match T elem with
  | some ei=>if len*ei.size<=2^24/\0<ei.size then
    match Q7 ei.size (List.replicate len ei.zeroCells) parts with
    | some es=>some (.ms id ei.size 0 len,σ.set id (.row elem ei.size es))
    | none=>none
   else none
  | none=>none
 | _=>none
theorem ii0{P:Program}{T:Tab}(hT:C2 P T){G:j4}{σ σ':c9}{w:World}(h:Rel G σ w){t:TypeId}{id len:Nat}{parts:List (Nat×AV)}{vparts:List (Nat×Value)}{v:AV}
  (he:parts.map (·.1)=vparts.map (·.1)) (hr:B7 G (parts.map (·.2)) (vparts.map (·.2))) (hid:G.pl id=none) (hlt:id<σ.next) (ha:I0 T σ id t len parts=some (v,σ')) :
  J4 G σ w σ' id v ((Instr.buildSlice t len vparts.toArray).run P w):=by
 unfold I0 at ha
 split at ha
 ·rename_i elem _ _ _ _ ht
  split at ha
  ·rename_i ei hei
   split at ha
   ·rename_i hsz
    split at ha
    ·rename_i es hes
     cases ha
     have hzl:=hT.zlen elem ei hei
     have hl0:∀ c∈List.replicate len ei.zeroCells,c.length=ei.size:=fun c hc=>by
      rw[List.eq_of_mem_replicate hc];simp[TI.zeroCells,hzl]
     obtain⟨hfill,hlen,hl⟩:=dV0 hl0 hes
     have hzf:=rr0 ei.zero.cells len (by omega)
     have hlen':es.length=len:=by rw[hlen];simp
     obtain⟨ys,hy1,hy2⟩:=gj0 (us:=(Array.range (len*ei.zero.cells.size)).map (ei.zero.cells[·%ei.zero.cells.size]!)) (by
      have:=B7.sc G ((Array.range (len*ei.zero.cells.size)).map (ei.zero.cells[·%ei.zero.cells.size]!)).toList
      rw[hzf]at this;exact this) he hr hfill
     have hys:ys.size=len*ei.size:=by have:=hy2.1;rw[B1 hl,hlen']at this;simpa using this
     obtain⟨p,hp1,hp2,hp3,hp4,hrel⟩:=kO0 (P:=P) h elem ys es ei.size len hl hy2 (fun k v hv=>by simpa using hv) hys (by omega) id hid hlt
     have hend:J4 G σ w (σ.set id (.row elem ei.size es)) id (.ms id ei.size 0 len) (.ok (.slice (some ⟨w.heap.size,0,none⟩) len len) { w with heap:=w.heap.push (.cells ys elem) }):=by
      refine J4.place (p:=p) hid ?_ hrel (Fr.push _ id hid p (fun _=>hp1) _ w.drawn)
      exact .ms id _ 0 len p (j4.place_same _ _ _) hp4 hp2 _ len (fun _=>by rw[hp1];simp) (by rw[hp3];simp) (Nat.le_refl _) rfl
     simp only[Instr.buildSlice,Sem.run_bind,B3 hT ht,F5 hT hei,Result.andThen_ok]
     rw[if_neg (by omega)]
     rw[hzl]at hy1
     by_cases e:len*ei.size=0
     ·simp only[e,if_true,Sem.run_bind,Sem.run_pure,Result.andThen_ok]
      have hcells:(Array.range 0).map ((#[]:Array Value)[·%(#[]:Array Value).size]!)=(Array.range (len*ei.size)).map (ei.zero.cells[·%ei.size]!):=by simp[e]
      rw[hcells,hy1]
      simpa[newRow]using hend
     ·simp only[e,if_false,Sem.run_bind,Sem.run_pure,Result.andThen_ok,ad0 hT hei,hzl,hy1,newRow,run_newObj]
      exact hend
    ·cases ha
   ·cases ha
  ·cases ha
 ·cases ha
def P6(σ:c9):AV->Option (List (List AV))
 | .ms id _ off len=>match σ.objs id with
  | some (.row _ _ es)=>if off+len<=es.length then some ((es.drop off).take len)else none
  | _=>none
 | .rs es=>some es
 | .sc (.slice none 0 0)=>some []
 | _=>none
theorem fp0{α:Type}{size:Nat}:∀ {es:List (List α)},(∀ c∈es,c.length=size)->∀ n,es.flatten.take (n*size)=(es.take n).flatten
 | [],_,n=>by simp
 | d::es,hl,0=>by simp
 | d::es,hl,n+1=>by
  have hd:d.length=size:=hl d (by simp)
  have e1:(n+1)*size=d.length+n*size:=by rw[hd,Nat.add_mul];omega
  rw[List.flatten_cons,e1,List.take_length_add_append,fp0 (fun c hc=>hl c (List.mem_cons_of_mem _ hc)) n]
  simp
theorem fx0{α:Type}{size:Nat}:∀ {es:List (List α)},(∀ c∈es,c.length=size)->∀ n,es.flatten.drop (n*size)=(es.drop n).flatten
 | [],_,n=>by simp
 | d::es,hl,0=>by simp
 | d::es,hl,n+1=>by
  have hd:d.length=size:=hl d (by simp)
  have e1:(n+1)*size=d.length+n*size:=by rw[hd,Nat.add_mul];omega
  rw[List.flatten_cons,e1,List.drop_append,Nat.add_sub_cancel_left,fx0 (fun c hc=>hl c (List.mem_cons_of_mem _ hc)) n]
  simp
theorem rR0{P:Program}{G:j4}{σ:c9}{w:World}(h:Rel G σ w){x:AV}{u:Value}(hx:Rep G x u){es:List (List AV)}(hs:P6 σ x=some es)(size:Nat)(hl:∀ c∈es,c.length=size) :
  (∃ a c,u=.slice a es.length c)/\∃ vs:List Value,(Builtin.firstCells size es.length u).run P w=.ok vs.toArray w/\B7 G es.flatten vs:=by
 unfold P6 at hs
 split at hs
 ·rename_i id _ off len
  split at hs
  ·rename_i elem rsize all ho
   split at hs
   ·rename_i hle
    cases hs
    have hlen:((all.drop off).take len).length=len:=by simp;omega
    rw[hlen]
    cases hx with
    | msNil _ _ p hp hv =>
     refine⟨⟨_,_,rfl⟩,[],by simp[Builtin.firstCells],?_⟩
     simp;exact .nil _
    | ms _ _ _ _ p hp hv hz a c hA hoff hlc hsp =>
     refine⟨⟨_,_,rfl⟩,?_⟩
     obtain⟨_,_,cells,hb,hps,hn,hcap,hrow⟩:=h.real ho hp hv
     have hall:∀ c∈all,c.length=rsize:=fun c hc=>by obtain⟨i,hi,rfl⟩:=List.getElem_of_mem hc;exact(hrow i hi).1
     by_cases h0:len=0
     ·subst h0
      refine⟨[],by simp[Builtin.firstCells,loadCells,loadCellsFrom],?_⟩
      simp;exact .nil _
     ·have hsz:rsize=size:=by
       have hm:all[off]'(by omega)∈(all.drop off).take len:=by
        have:=List.getElem_mem (l:=(all.drop off).take len) (n:=0) (by rw[hlen];omega)
        simpa using this
       rw[<- hl _ hm];exact(hall _ (List.getElem_mem _)).symm
      subst hsz
      have hbig:all.length*rsize<=cells.size:=by rw[hn];exact Nat.mul_le_mul_right _ hcap
      have hflat:=dH0 hrow hbig
      have hsub:=(hflat.drop (off*rsize)).take (len*rsize)
      rw[fx0 hall,fp0 (fun c hc=>hall c (List.mem_of_mem_drop hc))]at hsub
      have hmul:off*rsize+len*rsize<=all.length*rsize:=by rw[<- Nat.add_mul];exact Nat.mul_le_mul_right _ hle
      refine⟨_,?_,hsub⟩
      have hL:(List.take (len*rsize) (List.drop (off*rsize) (List.take (all.length*rsize) cells.toList))).length=len*rsize:=by simp;omega
      simp only[Builtin.firstCells]
      rw[hA (by omega),hps]
      conv=>lhs;rw[<- hL]
      refine run_loadCells_list (P:=P) w _ _ (fun j v hv=>?_)
      rw[L4,cell_of_row w _ _ cells elem _ hb]
      simp only[List.getElem?_take,List.getElem?_drop]at hv
      split at hv
      ·split at hv
       ·simpa using hv
       ·cases hv
      ·cases hv
   ·cases hs
  ·cases hs
 ·cases hs
  cases hx with
  | rsNil=>exact⟨⟨_,_,rfl⟩,[],by simp[Builtin.firstCells],.nil _⟩
  | rs es a cap rsize val hsp hc hlen himm hrep =>
   refine⟨⟨_,_,rfl⟩,?_⟩
   obtain⟨b,o,sp⟩:=a
   by_cases h0:es=[]
   ·subst h0
    exact⟨[],by simp[Builtin.firstCells,loadCells,loadCellsFrom],.nil _⟩
   have hsp:=hsp (by have h1:0<es.length:=List.length_pos_iff.2 h0;omega)
   simp at hsp;subst hsp
   have hsz:rsize=size:=by
    have h1:0<es.length:=List.length_pos_iff.2 h0
    rw[<- hlen 0 h1];exact hl _ (List.getElem_mem _)
   subst hsz
   have hread:∀ k,k<es.length*rsize->k / rsize<es.length/\k%rsize<rsize/\k / rsize*rsize+k%rsize=k:=fun k hk=>by
    have hp:0<rsize:=by
     rcases Nat.eq_zero_or_pos rsize with e | e
     ·subst e;simp at hk
     ·exact e
    exact⟨(Nat.div_lt_iff_lt_mul hp).2 hk,Nat.mod_lt _ hp,by rw[Nat.mul_comm];exact Nat.div_add_mod k rsize⟩
   refine⟨(List.range (es.length*rsize)).map (fun k=>val (k / rsize) (k%rsize)),?_,?_⟩
   ·simp only[Builtin.firstCells]
    refine run_loadCells (P:=P) w _ _ _ (fun k hk=>?_)
    obtain⟨h1,h2,h3⟩:=hread k hk
    rw[L4]
    have:=h.cell (himm (k / rsize) (k%rsize) h1 h2)
    rwa [Nat.add_assoc,h3]at this
   ·refine⟨by rw[B1 hl];simp,fun k hk hk'=>?_⟩
    rw[B1 hl]at hk
    obtain⟨h1,h2,h3⟩:=hread k hk
    have hg:=aE0 hl (k / rsize) (k%rsize) es[k / rsize] (List.getElem?_eq_getElem h1) h2
    have hll:=hlen _ h1
    rw[h3,List.getElem?_eq_getElem (show k<es.flatten.length by rw[B1 hl];exact hk),List.getElem?_eq_getElem (show k%rsize<es[k / rsize].length by rw[hll];exact h2)]at hg
    simp only[Option.some.injEq]at hg
    rw[hg]
    have:=hrep (k / rsize) (k%rsize) h1 (by rw[hll];exact h2)
    simpa using this
 ·cases hs
  cases hx
  exact⟨⟨_,_,rfl⟩,[],by simp[Builtin.firstCells],.nil _⟩
 ·cases hs
end Go.Ab
namespace Go.Ab
open Go
variable [B0]
def TI.isInt(ti:TI):Bool:=match ti.und with | .int _=>true | _=>false
def S3(σ:c9)(elem:TypeId)(size:Nat):AV->Option (Option Nat×List (List AV))
 | .ms id _ 0 len=>match σ.objs id with
  | some (.row e sz es)=>if len=es.length/\sz=size/\e=elem then some (some id,es)else none
  | _=>none
 | .sc (.slice none 0 0)=>some (none,[])
 | _=>none
def N9(T:Tab)(σ:c9)(id:Nat)(sT xT:TypeId)(s x:AV):Option (AV×c9) :=
 match T sT,T xT with
 | some { und:=.slice elem,.. },some xi =>
  match T elem with
  | some ei =>
   match S3 σ elem ei.size s,P6 σ x with
   | some (old,es),some xs =>
    if xi.isInt=false/\(xs.all fun c=>c.length==ei.size&&c.all AV.one)=true/\(2*(es.length+xs.length)+1000)*ei.bytes<=2^48/\es.length+xs.length<=2^62/\0<ei.size then
     some (.ms id ei.size 0 (es.length+xs.length),(match old with | some i=>σ.del i | none=>σ).set id (.row elem ei.size (es++xs)))
    else none
   | _,_=>none
  | none=>none
 | _,_=>none
theorem kM0(n:Nat):∀ (r c:Nat),c<=2*n+192->Builtin.growBy n r c<=2*n+192
 | 0,c,h=>by simpa[Builtin.growBy]using h
 | r+1,c,h=>by
  unfold Builtin.growBy
  split
  ·exact h
  ·exact kM0 n r _ (by omega)
theorem iL0{n c:Nat}(h:c<n):Builtin.nextslicecap n c<=2*n+192:=by
 unfold Builtin.nextslicecap
 split
 ·omega
 ·split
  ·omega
  ·exact kM0 n 4 c (by omega)
theorem run_append_room{P:Program}{T:Tab}(hT:C2 P T){w:World}{sT xT elem:TypeId}{st xi ei:TI}(hs:T sT=some st)(hu:st.und=.slice elem)(hx:T xT=some xi)(hi:xi.isInt=false)(he:T elem=some ei)
  (base:Option Addr) (sLen sCap n:Nat) (xa:Option Addr) (xc:Nat) (vs:Array Value) (hload:(Builtin.firstCells ei.size n (.slice xa n xc)).run P w=.ok vs w) (hroom:sLen+n<=sCap) (ty:TypeId) :
  (Builtin.append_ #[sT,xT] ty #[.slice base sLen sCap,.slice xa n xc]).run P w =
   (((match base with | some a=>storeCells (a.add (sLen*ei.size)) vs.toList | none=>pure ()):Sem Unit).run P w).andThen (fun _ w'=>.ok (.slice base (sLen+n) sCap) w'):=by
 have hz:((match xi.und with | .int _=>true | _=>false):Bool)=false:=hi
 have hund:(underlying sT).run P w=.ok (.slice elem) w:=by rw[B3 hT hs,hu]
 unfold Builtin.append_
 simp only[List.getElem?_toArray,List.getElem?_cons_zero,List.getElem?_cons_succ,Sem.run_bind,hund,Result.andThen_ok,F5 hT he,B3 hT hx,Sem.run_pure]
 cases hxu:xi.und<;>simp only[TI.isInt,hxu]at hi<;>first
  | (cases hi;done)
  | (simp only[Bool.false_eq_true,if_false,Builtin.lenOf,Sem.run_bind,Sem.run_pure,Result.andThen_ok,hroom,if_true,Bool.not_false,hload];cases base<;>simp)
theorem run_append_grow{P:Program}{T:Tab}(hT:C2 P T){w:World}{sT xT elem:TypeId}{st xi ei:TI}(hs:T sT=some st)(hu:st.und=.slice elem)(hx:T xT=some xi)(hi:xi.isInt=false)(he:T elem=some ei)
  (base:Option Addr) (sLen sCap n:Nat) (xa:Option Addr) (xc:Nat) (us vs:Array Value)
  (hold:∀ k,(Builtin.firstCells ei.size sLen (.slice base sLen sCap)).run P { w with drawn:=k }=.ok us { w with drawn:=k })
  (hload:∀ k,(Builtin.firstCells ei.size n (.slice xa n xc)).run P { w with drawn:=k }=.ok vs { w with drawn:=k })
  (hroom:sCap<sLen+n) (hb:(2*(sLen+n)+1000)*ei.bytes<=2^48) (hN:sLen+n<=2^62) (ty:TypeId) :
  ∃ newCap,sLen+n<=newCap/\(Builtin.append_ #[sT,xT] ty #[.slice base sLen sCap,.slice xa n xc]).run P w =
   .ok (.slice (some ⟨w.heap.size,0,none⟩) (sLen+n) newCap) { w with drawn:=w.drawn+1,heap:=w.heap.push (.cells (us++vs++Builtin.zeroCells ei.zero.cells (newCap-(sLen+n))) elem) }:=by
 have hund:∀ k,(underlying sT).run P { w with drawn:=k }=.ok (.slice elem) { w with drawn:=k }:=fun k=>by rw[B3 hT hs,hu]
 obtain⟨i,hi1,hi2⟩:=lx0 hT he w
 have hi1':∀ w',(typeInfo elem).run P w'=.ok i w':=fun w'=>by
  obtain⟨j,hj,_⟩:=hT.info elem ei he
  have:(typeInfo elem).run P w=.ok j w:=by simp[typeInfo,hj]
  rw[this]at hi1;cases hi1
  simp[typeInfo,hj]
 have hcap:=iL0 hroom
 have hsmall:¬ (Builtin.nextslicecap (sLen+n) sCap*i.bytes > 2^48):=by
  rw[hi2]
  have:Builtin.nextslicecap (sLen+n) sCap*ei.bytes<=(2*(sLen+n)+1000)*ei.bytes:=Nat.mul_le_mul_right _ (by omega)
  omega
 refine⟨(Question.appendCap (sLen+n) sCap elem).cut (w.tape w.drawn (.appendCap (sLen+n) sCap elem)),by simp only[Question.cut];omega,?_⟩
 have h0:=hund w.drawn
 have hl1:=hold (w.drawn+1)
 have hl2:=hload (w.drawn+1)
 have hmax:¬ (((sLen+n:Nat):Int) > IntKind.i64.max/\(False\/i.bytes=0)):=by
  have:IntKind.i64.max=9223372036854775807:=by decide
  rw[this];omega
 unfold Builtin.append_
 simp only[List.getElem?_toArray,List.getElem?_cons_zero,List.getElem?_cons_succ,Sem.run_bind,h0,Result.andThen_ok,F5 hT he,B3 hT hx,Sem.run_pure]
 cases hxu:xi.und<;>simp only[TI.isInt,hxu]at hi<;>first
  | (cases hi;done)
  | (simp only[Bool.false_eq_true,if_false,Builtin.lenOf,Sem.run_bind,Sem.run_pure,Result.andThen_ok,if_neg (Nat.not_le.2 hroom),Bool.not_false,if_true,hi1',if_neg hmax,if_neg hsmall,run_choose,Question.forced,run_askRoom,hl1,hl2,ad0 hT he,newRow,run_newObj])
theorem Q9{P:Program}(w:World)(k:Nat)(a:Addr):∀ (n i:Nat) (acc vs:Array Value),(loadCellsFrom a i n acc).run P w=.ok vs w->(loadCellsFrom a i n acc).run P { w with drawn:=k }=.ok vs { w with drawn:=k }
 | 0,i,acc,vs,h=>by simp[loadCellsFrom]at h ⊢;exact h
 | n+1,i,acc,vs,h=>by
  simp only[loadCellsFrom,Sem.run_bind,run_load]at h ⊢
  have hc:({ w with drawn:=k }:World).cell? (a.add i)=w.cell? (a.add i):=rfl
  rw[hc]
  cases hw:w.cell? (a.add i)with
  | some v =>
   simp only[hw,Result.andThen_ok]at h ⊢
   exact Q9 w k a n (i+1) _ vs h
  | none =>
   simp only[hw]at h ⊢
   have hf:({ w with drawn:=k }:World).farLoad P (a.add i) (Mode.plain==.atomic)=w.farLoad P (a.add i) (Mode.plain==.atomic):=rfl
   rw[hf]
   cases hq:w.farLoad P (a.add i) (Mode.plain==.atomic)with
   | ok r =>
    obtain⟨v,l⟩:=r
    simp only[hq,Result.andThen_ok]at h ⊢
    exact Q9 w k a n (i+1) _ vs h
   | error e=>simp[hq]at h
theorem cm0{P:Program}(w:World)(k:Nat)(a:Addr)(n:Nat)(vs:Array Value)(h:(loadCells a n).run P w=.ok vs w):(loadCells a n).run P { w with drawn:=k }=.ok vs { w with drawn:=k } :=
 Q9 w k a n 0 #[] vs h
theorem eC0{σ:c9}{i k:Nat}{o:l7}(h:(σ.del i).objs k=some o):σ.objs k=some o:=by
 rw[c9.objs_del]at h
 split at h
 ·cases h
 ·exact h
theorem io0(zero:Array Value)(n:Nat):(Builtin.zeroCells zero n).size=n*zero.size:=by simp[Builtin.zeroCells]
theorem X3{P:Program}{T:Tab}(hT:C2 P T){G:j4}{σ:c9}{w:World}(h:Rel G σ w){elem:TypeId}{ei:TI}(he:T elem=some ei){id:Nat}(hid:G.pl id=none)(hlt:id<σ.next)
  {es xs:List (List AV)} (hes:∀ c∈es,c.length=ei.size) (hxs:∀ c∈xs,c.length=ei.size) {us vs:List Value} (hu:B7 G es.flatten us) (hv:B7 G xs.flatten vs) {newCap:Nat} (hc:es.length+xs.length<=newCap) :
  J4 G σ w (σ.set id (.row elem ei.size (es++xs))) id (.ms id ei.size 0 (es.length+xs.length)) (.ok (.slice (some ⟨w.heap.size,0,none⟩) (es.length+xs.length) newCap)
   { w with drawn:=w.drawn+1,heap:=w.heap.push (.cells (us.toArray++vs.toArray++Builtin.zeroCells ei.zero.cells (newCap-(es.length+xs.length))) elem) }):=by
 have hall:∀ c∈es++xs,c.length=ei.size:=fun c hc=>by
  rcases List.mem_append.1 hc with h1 | h1
  ·exact hes c h1
  ·exact hxs c h1
 have hul:us.length=es.length*ei.size:=by rw[hu.1,B1 hes]
 have hvl:vs.length=xs.length*ei.size:=by rw[hv.1,B1 hxs]
 have hz:=hT.zlen elem ei he
 obtain⟨p,hp1,hp2,hp3,hp4,hrel⟩:=kO0 (P:=P) (h.drawn (w.drawn+1)) elem (us.toArray++vs.toArray++Builtin.zeroCells ei.zero.cells (newCap-(es.length+xs.length))) (es++xs) ei.size newCap hall
  (vs:=us++vs) (by rw[List.flatten_append];exact hu.append hv) (fun k v hk=>by
   obtain⟨hk1,_⟩:=List.getElem?_eq_some_iff.1 hk
   rw[Array.getElem?_append,if_pos (by simpa using hk1)]
   simpa using hk) (by
   simp[io0,hz,hul,hvl]
   rw[<- Nat.add_mul,<-Nat.add_mul];congr 1;omega) (by simp;omega) id hid hlt
 refine J4.place (p:=p) hid ?_ hrel (Fr.push (w:=w) _ id hid p (fun _=>hp1) _ (w.drawn+1))
 exact .ms id _ 0 _ p (j4.place_same _ _ _) hp4 hp2 _ newCap (fun _=>by rw[hp1];simp) (by rw[hp3];simp) hc rfl
theorem oz0{P:Program}{T:Tab}(hT:C2 P T){G:j4}{σ σ':c9}{w:World}(h:Rel G σ w){sT xT ty:TypeId}{id:Nat}{s x v:AV}{u y:Value}(hs:Rep G s u)(hx:Rep G x y)
  (hid:G.pl id=none) (hlt:id<σ.next) (ha:N9 T σ id sT xT s x=some (v,σ')):J4 G σ w σ' id v ((Builtin.append_ #[sT,xT] ty #[u,y]).run P w):=by
 unfold N9 at ha
 split at ha
 ·rename_i elem z1 z2 z3 z4 xi hsT hxT
  split at ha
  ·rename_i ei hei
   split at ha
   ·rename_i old es xs hbase hsrc
    split at ha
    ·rename_i hcond
     obtain⟨hint,hallB,hbytes,hN,hpos⟩:=hcond
     have hxs:∀ c∈xs,c.length=ei.size/\c.all AV.one=true:=fun c hc=>by
      have:=List.all_eq_true.1 hallB c hc
      simpa using this
     have hxl:∀ c∈xs,c.length=ei.size:=fun c hc=>(hxs c hc).1
     obtain⟨⟨xa,xc,rfl⟩,vs,hload,hvs⟩:=rR0 (P:=P) h hx hsrc ei.size hxl
     have hload':∀ k,(Builtin.firstCells ei.size xs.length (.slice xa xs.length xc)).run P { w with drawn:=k }=.ok vs.toArray { w with drawn:=k }:=fun k=>by
      obtain⟨_,vs',hl',hv'⟩:=rR0 (P:=P) (h.drawn k) hx hsrc ei.size hxl
      rw[hl']
      have:=hload
      have e:vs'=vs:=by
       have hd:(Builtin.firstCells ei.size xs.length (.slice xa xs.length xc)).run P { w with drawn:=w.drawn }=.ok vs.toArray w:=hload
       cases xa with
       | none =>
        simp[Builtin.firstCells]at hl' hload
        have e1:vs'=[]:=by simpa using hl'.symm
        have e2:vs=[]:=by simpa using hload.symm
        rw[e1,e2]
       | some a =>
        simp only[Builtin.firstCells]at hl' hload
        have key:=cm0 (P:=P) w k a (xs.length*ei.size) vs.toArray hload
        rw[key]at hl'
        simpa using hl'.symm
      rw[e]
     simp only[Option.some.injEq,Prod.mk.injEq]at ha
     obtain⟨rfl,rfl⟩:=ha
     unfold S3 at hbase
     split at hbase
     ·rename_i i _ len
      split at hbase
      ·rename_i e' sz es1 ho
       split at hbase
       ·rename_i hc
        obtain⟨hlen,rfl,hel⟩:=hc
        subst hel
        cases hbase
        cases hs with
        | msNil _ _ p hp hv =>
         have hes0:es=[]:=by
          rcases h.lies ho hp with ⟨_,_,_,e2⟩ | ⟨e2,_⟩
          ·cases e2;rfl
          ·rw[hv]at e2;cases e2
         subst hes0
         simp only[List.length_nil,Nat.zero_add,List.nil_append]
         by_cases hx0:xs=[]
         ·subst hx0
          have hroom:=run_append_room hT (w:=w) hsT rfl hxT hint hei none 0 0 0 xa xc vs.toArray (by simpa using hload) (by omega) ty
          simp only[List.length_nil]
          rw[hroom]
          simp only[Sem.run_pure,Result.andThen_ok]
          exact J4.place (p:=p) hid (.msNil id _ p (j4.place_same _ _ _) hv) (h.move ho hp hid hlt) (Fr.move ho hp)
         ·have hpos':0<xs.length:=List.length_pos_iff.2 hx0
          obtain⟨newCap,hcap,hrun⟩:=run_append_grow hT (w:=w) hsT rfl hxT hint hei none 0 0 xs.length xa xc #[] vs.toArray (fun k=>by simp[Builtin.firstCells]) hload' (by omega) (by simpa using hbytes) (by simpa using hN) ty
          rw[hrun]
          have hr2:Rel G (σ.del i) w:=h.less rfl (fun k o hk=>eC0 hk)
          have:=X3 hT hr2 hei hid hlt (es:=[]) (by simp) hxl (.nil G) hvs (newCap:=newCap) (by simpa using hcap)
          refine J4.less (σ1:=σ.del i) (fun k o hk=>eC0 hk) ?_
          simpa using this
        | ms _ _ _ _ p hp hv hz a c hA hoff hlc hsp =>
         subst hlen
         obtain⟨him,hw0,cells,hb,hps,hn,hcap,hrow⟩:=h.real ho hp hv
         have hes:∀ c∈es,c.length=ei.size:=fun c hc=>by obtain⟨k,hk,rfl⟩:=List.getElem_of_mem hc;exact(hrow k hk).1
         by_cases hroom:es.length+xs.length<=c
         ·rw[run_append_room hT (w:=w) hsT rfl hxT hint hei (some a) es.length c xs.length xa xc vs.toArray hload hroom ty]
          by_cases hx0:xs=[]
          ·subst hx0
           have hv0:vs=[]:=by have:=hvs.1;simpa using this
           subst hv0
           simp only[storeCells,Sem.run_pure,Result.andThen_ok,List.length_nil,Nat.add_zero,List.append_nil]
           exact J4.place (p:=p) hid (.ms id _ 0 _ p (j4.place_same _ _ _) hv hps a c hA hoff hlc hsp) (h.move ho hp hid hlt) (Fr.move ho hp)
          ·have hpos':0<xs.length:=List.length_pos_iff.2 hx0
           have hvl:vs.length=xs.length*ei.size:=by rw[hvs.1,B1 hxl]
           rw[hA (by omega),hps]
           have hbig:es.length*ei.size+xs.length*ei.size<=cells.size:=by
            rw[hn,<-Nat.add_mul];exact Nat.mul_le_mul_right _ (by omega)
           obtain⟨cs',hrun,hsz,O3⟩:=U1 (P:=P) p.block (es.length*ei.size) e' vs 0 cells w hb (by rw[hvl];omega) (fun z hz=>by
            obtain⟨k,hk,rfl⟩:=List.getElem_of_mem hz
            have hk':k<xs.flatten.length:=by rw[<- hvs.1];exact hk
            refine(hvs.2 k hk' hk).one ?_
            obtain⟨c,hc1,hc2⟩:=List.mem_flatten.1 (List.getElem_mem hk')
            exact List.all_eq_true.1 (hxs c hc1).2 _ hc2)
           simp only[Nat.zero_mul,L4,Nat.zero_add,hrun,Result.andThen_ok]
           have hall:∀ c∈es++xs,c.length=ei.size:=fun c hc=>by
            rcases List.mem_append.1 hc with h1 | h1
            ·exact hes c h1
            ·exact hxl c h1
           have hflat:=dH0 hrow (by omega)
           have hreps:B7 G (es++xs).flatten (cells.toList.take (es.length*ei.size)++vs):=by rw[List.flatten_append];exact hflat.append hvs
           have hw':=h.write (o':=.row e' ei.size (es++xs)) ho hp hv (.cells cs' e' (0,0)) (D6 w p.block (.cells cs' e' (0,0))) rfl rfl rfl (F9 _ _ _) (fun k hk=>E2 _ _ _ _ hk)
            (R3 _ _ _ _ hb) ⟨cs',rfl,hps,by rw[hsz,hn],by simp;omega,hY0 hall hreps (fun k z hk=>by
             have hg:=O3 k
             simp only[Nat.add_zero]at hg
             rw[hg]
             have hmin:(cells.toList.take (es.length*ei.size)).length=es.length*ei.size:=by simp;omega
             rw[List.getElem?_append,hmin]at hk
             split at hk
             ·rename_i hk1
              rw[if_neg (by omega)]
              rw[List.getElem?_take,if_pos hk1]at hk
              simpa using hk
             ·rename_i hk1
              obtain⟨hk2,_⟩:=List.getElem?_eq_some_iff.1 hk
              rw[if_pos (by omega)]
              exact hk)⟩
           have hm:=hw'.move (id:=i) (id':=id) (o:=.row e' ei.size (es++xs)) (p:=p) (by simp[c9.objs_set]) hp hid hlt
           have hless:∀ k o,((σ.del i).set id (.row e' ei.size (es++xs))).objs k=some o->(((σ.set i (.row e' ei.size (es++xs))).del i).set id (.row e' ei.size (es++xs))).objs k=some o:=(fun k o hk=>by
            rw[c9.objs_set,c9.objs_del]at hk ⊢
            by_cases q:k=id
            ·simpa[q]using hk
            ·by_cases q2:k=i
             ·subst q2;simp[q]at hk
             ·simpa[q,q2,c9.objs_set]using hk)
           have hm2:Rel (G.place id p) ((σ.del i).set id (.row e' ei.size (es++xs))) (D6 w p.block (.cells cs' e' (0,0))):=hm.less rfl hless
           have hfw:Fr G σ w G (σ.set i (.row e' ei.size (es++xs))) (D6 w p.block (.cells cs' e' (0,0))):=Fr.write ho hp hv _ (F9 _ _ _) (fun k hk=>E2 _ _ _ _ hk)
           have hfm:Fr G (σ.set i (.row e' ei.size (es++xs))) (D6 w p.block (.cells cs' e' (0,0))) (G.place id p) (((σ.set i (.row e' ei.size (es++xs))).del i).set id (.row e' ei.size (es++xs))) (D6 w p.block (.cells cs' e' (0,0))):=Fr.move (id:=i) (o:=.row e' ei.size (es++xs)) (by simp[c9.objs_set]) hp
           exact J4.place (p:=p) hid (.ms id _ 0 _ p (j4.place_same _ _ _) hv hps _ c (fun _=>by simp) (by omega) hroom rfl) hm2 (hfw.trans (hfm.trans (Fr.less hless)))
         ·have hnr:c<es.length+xs.length:=by omega
          have hflat:=dH0 hrow (by rw[hn];exact Nat.mul_le_mul_right _ hcap)
          have hsrc2:P6 σ (.ms i ei.size 0 es.length)=some es:=by simp[P6,ho]
          have hrs:Rep G (.ms i ei.size 0 es.length) (.slice (some a) es.length c):=.ms _ _ _ _ p hp hv hps a c hA hoff hlc hsp
          obtain⟨_,us,hold,hus⟩:=rR0 (P:=P) h hrs hsrc2 ei.size hes
          have hold':∀ k,(Builtin.firstCells ei.size es.length (.slice (some a) es.length c)).run P { w with drawn:=k }=.ok us.toArray { w with drawn:=k }:=fun k=>by
           simp only[Builtin.firstCells]at hold ⊢
           exact cm0 (P:=P) w k a _ _ hold
          obtain⟨newCap,hcap2,hrun⟩:=run_append_grow hT (w:=w) hsT rfl hxT hint hei (some a) es.length c xs.length xa xc us.toArray vs.toArray hold' hload' hnr hbytes hN ty
          rw[hrun]
          have hr2:Rel G (σ.del i) w:=h.less rfl (fun k o hk=>eC0 hk)
          exact J4.less (σ1:=σ.del i) (fun k o hk=>eC0 hk) (X3 hT hr2 hei hid hlt hes hxl hus hvs hcap2)
       ·cases hbase
      ·cases hbase
     ·cases hbase
      cases hs
      simp only[List.length_nil,Nat.zero_add,List.nil_append]
      by_cases hx0:xs=[]
      ·subst hx0
       have hroom:=run_append_room hT (w:=w) hsT rfl hxT hint hei none 0 0 0 xa xc vs.toArray (by simpa using hload) (by omega) ty
       simp only[List.length_nil]
       rw[hroom]
       simp only[Sem.run_pure,Result.andThen_ok]
       exact J4.place (p:={ block:=0,size:=0,cap:=0,virt:=true }) hid (.msNil id _ _ (j4.place_same _ _ _) rfl) (h.virt id hid hlt _ rfl elem ei.size) (Fr.virt id _ rfl _)
      ·have hpos':0<xs.length:=List.length_pos_iff.2 hx0
       obtain⟨newCap,hcap,hrun⟩:=run_append_grow hT (w:=w) hsT rfl hxT hint hei none 0 0 xs.length xa xc #[] vs.toArray (fun k=>by simp[Builtin.firstCells]) hload' (by omega) (by simpa using hbytes) (by simpa using hN) ty
       rw[hrun]
       have:=X3 hT h hei hid hlt (es:=[]) (by simp) hxl (.nil G) hvs (newCap:=newCap) (by simpa using hcap)
       simpa using this
     ·cases hbase
    ·cases ha
   ·cases ha
  ·cases ha
 ·cases ha
end Go.Ab
namespace Go.Ab
open Go
variable [B0]
def w9(σ:c9):AV->c9
 | .ms id _ 0 len=>match σ.objs id with
  | some (.row e sz es)=>if len<es.length then σ.set id (.row e sz (es.take len))else σ
  | _=>σ
 | _=>σ
theorem Rel.trunc{G:j4}{σ:c9}{w:World}(h:Rel G σ w){id:Nat}{e:TypeId}{sz:Nat}{es:List (List AV)}(ho:σ.objs id=some (.row e sz es))(n:Nat)(hn:n<es.length) :
  Rel G (σ.set id (.row e sz (es.take n))) w/\Fr G σ w G (σ.set id (.row e sz (es.take n))) w:=by
 obtain⟨p,hp,hl⟩:=h.objs id _ ho
 have hv:p.virt=false:=by
  rcases hl with ⟨_,e2,s2,h2⟩ | ⟨h2,_⟩
  ·cases h2;simp at hn
  ·exact h2
 obtain⟨_,_,cells,hb,hs,hsz,hle,hrow⟩:=h.real ho hp hv
 refine⟨h.write ho hp hv (.cells cells e (0,0)) w rfl rfl rfl rfl (fun _ _=>rfl) hb ⟨cells,rfl,hs,hsz,by simp;omega,fun i hi=>?_⟩,Fr.write ho hp hv w rfl (fun _ _=>rfl)⟩
 have hi':i<es.length:=by simp at hi;omega
 have:=hrow i hi'
 rw[List.getElem_take]
 exact this
theorem lo0{G:j4}{σ:c9}{w:World}(h:Rel G σ w)(s:AV):Rel G (w9 σ s) w/\Fr G σ w G (w9 σ s) w/\(w9 σ s).next=σ.next:=by
 unfold w9
 split
 ·split
  ·rename_i ho
   split
   ·rename_i hl
    exact⟨(h.trunc ho _ hl).1,(h.trunc ho _ hl).2,rfl⟩
   ·exact⟨h,.refl _ _ _,rfl⟩
  ·exact⟨h,.refl _ _ _,rfl⟩
 ·exact⟨h,.refl _ _ _,rfl⟩
def df0(T:Tab)(σ:c9)(id:Nat)(elem:TypeId)(s x:AV):Option (AV×c9) :=
 match s,x,T elem with
 | .sc (.slice none 0 0),.sc (.int _ n),some ei =>
  if IntKind.i64.wrap n=n/\0<n/\(2*n.toNat+1000)*ei.bytes<=2^48/\n.toNat<=2^62/\0<ei.size then
   some (.ms id ei.size 0 n.toNat,σ.set id (.row elem ei.size (List.replicate n.toNat ei.zeroCells)))
  else none
 | _,_,_=>none
theorem ip0(zero:Array Value)(n:Nat):(Builtin.zeroCells zero n).toList=(List.replicate n zero.toList).flatten:=by
 have h0:(List.range zero.size).map (fun i=>zero[i%zero.size]!)=zero.toList:=by
  apply List.ext_getElem
  ·simp
  ·intro i h1 h2
   have h3:i<zero.size:=by simpa using h1
   simp[Nat.mod_eq_of_lt h3,h3]
 have key:∀ n,(List.range (n*zero.size)).map (fun i=>zero[i%zero.size]!)=(List.replicate n zero.toList).flatten:=by
  intro n
  induction n with
  | zero=>simp
  | succ n ih =>
   rw[Nat.succ_mul,Nat.add_comm,List.range_add,List.map_append,h0,List.replicate_succ,List.flatten_cons,<-ih,List.map_map]
   congr 1
   apply List.map_congr_left
   intro i _
   simp
 simp only[Builtin.zeroCells,Array.toList_map,Array.toList_range]
 exact key n
theorem B7.zeros{G:j4}(zs:List Value):∀ n,B7 G (List.replicate n (zs.map AV.sc)).flatten (List.replicate n zs).flatten
 | 0=>.nil G
 | n+1=>by
  simp only[List.replicate_succ,List.flatten_cons]
  refine B7.append ⟨by simp,fun i h1 h2=>?_⟩ (B7.zeros zs n)
  simp only[List.getElem_map]
  exact .sc _
theorem qo0{P:Program}{T:Tab}(hT:C2 P T){G:j4}{σ σ':c9}{w:World}(h:Rel G σ w){sT xT ty elem:TypeId}{st xi:TI}{k:IntKind}(hsT:T sT=some st)(hu:st.und=.slice elem)(hxT:T xT=some xi)(hxi:xi.und=.int k){id:Nat}{s x v:AV}{u y:Value}(hs:Rep G s u)(hx:Rep G x y)
  (hid:G.pl id=none) (hlt:id<σ.next) (ha:df0 T σ id elem s x=some (v,σ')):J4 G σ w σ' id v ((Builtin.append_ #[sT,xT] ty #[u,y]).run P w):=by
 unfold df0 at ha
 split at ha
 ·rename_i k' n ei hei
  split at ha
  ·rename_i hc
   obtain⟨h1,h2,h3,h4,h5⟩:=hc
   cases ha
   cases hs
   cases hx
   obtain⟨N,rfl⟩:∃ N:Nat,n=N:=⟨n.toNat,by omega⟩
   simp only[Int.toNat_natCast]at *
   obtain⟨i,hi1,hi2⟩:=lx0 hT hei w
   have hi1':∀ w',(typeInfo elem).run P w'=.ok i w':=fun w'=>by
    obtain⟨j,hj,_⟩:=hT.info elem ei hei
    have:(typeInfo elem).run P w=.ok j w:=by simp[typeInfo,hj]
    rw[this]at hi1;cases hi1
    simp[typeInfo,hj]
   have hN:0<N:=by omega
   have hcap:=iL0 hN
   have hmul:∀ m,m<=2*N+1000->m*i.bytes<=2^48:=fun m hm=>by
    rw[hi2];exact Nat.le_trans (Nat.mul_le_mul_right _ hm) h3
   have hsmall:¬ (Builtin.nextslicecap N 0*i.bytes > 2^48):=by have:=hmul (Builtin.nextslicecap N 0) (by omega);omega
   have hsmall2:¬ ((N:Int)*(i.bytes:Int) > 2^48):=by
    have h6:=hmul N (by omega)
    have:((N*i.bytes:Nat):Int)<=((2^48:Nat):Int):=Int.ofNat_le.2 h6
    rw[Int.natCast_mul]at this
    have e:((2^48:Nat):Int)=2^48:=by rfl
    omega
   have hneg:¬ ((N:Int)<0):=by omega
   have hmax:¬ (((N:Nat):Int) > IntKind.i64.max/\(True\/i.bytes=0)):=by
    have:IntKind.i64.max=9223372036854775807:=by decide
    rw[this];omega
   have hz0:¬ (N*ei.size=0):=by
    have:0<N*ei.size:=Nat.mul_pos hN h5
    omega
   have hz:=hT.zlen elem ei hei
   have hrun:(Builtin.append_ #[sT,xT] ty #[.slice none 0 0,.int k' N]).run P w =
     .ok (.slice (some ⟨w.heap.size,0,none⟩) N ((Question.appendCap N 0 elem).cut (w.tape w.drawn (.appendCap N 0 elem)))) { w with drawn:=w.drawn+1,heap:=w.heap.push (.cells (#[]++Builtin.zeroCells ei.zero.cells N++Builtin.zeroCells ei.zero.cells ((Question.appendCap N 0 elem).cut (w.tape w.drawn (.appendCap N 0 elem))-N)) elem) }:=by
    have hund:(underlying sT).run P w=.ok (.slice elem) w:=by rw[B3 hT hsT,hu]
    have hund2:(underlying xT).run P w=.ok (.int k) w:=by rw[B3 hT hxT,hxi]
    have hroom:¬ (0+N<=0):=by omega
    unfold Builtin.append_
    simp only[List.getElem?_toArray,List.getElem?_cons_zero,List.getElem?_cons_succ,Sem.run_bind,hund,hund2,Result.andThen_ok,F5 hT hei,Sem.run_pure,if_true,asInt,asIntOf,h1,if_neg hneg,hi1',if_neg hsmall2,Int.toNat_natCast,if_neg hroom]
    simp only[Nat.zero_add,if_neg hmax,if_neg hsmall,run_choose,Question.forced,Result.andThen_ok,run_askRoom,Builtin.firstCells,Sem.run_pure,Bool.not_true,Bool.false_eq_true,if_false,if_neg hz0,Sem.run_bind,ad0 hT hei,newRow,run_newObj,hi1']
   rw[hrun]
   have hzc:∀ c∈List.replicate N ei.zeroCells,c.length=ei.size:=fun c hc=>by
    rw[(List.mem_replicate.1 hc).2];simp[TI.zeroCells,hz]
   have:=X3 hT h hei hid hlt (es:=[]) (xs:=List.replicate N ei.zeroCells) (us:=[]) (vs:=(List.replicate N ei.zero.cells.toList).flatten) (by simp) hzc (.nil G) (B7.zeros _ N) (newCap:=(Question.appendCap N 0 elem).cut (w.tape w.drawn (.appendCap N 0 elem))) (by simp only[Question.cut];simp)
   have e:(List.replicate N ei.zero.cells.toList).flatten.toArray=Builtin.zeroCells ei.zero.cells N:=by apply Array.ext';rw[ip0]
   simp only[e,List.length_nil,List.length_replicate,Nat.zero_add,List.nil_append]at this
   exact this
  ·cases ha
 ·cases ha
def E9(T:Tab)(σ:c9)(id:Nat)(sT xT:TypeId)(s x:AV):Option (AV×c9) :=
 match T sT,T xT with
 | some { und:=.slice elem,.. },some { und:=.int _,.. }=>df0 T σ id elem s x
 | _,_=>N9 T (w9 σ s) id sT xT s x
theorem mq0{P:Program}{T:Tab}(hT:C2 P T){G:j4}{σ σ':c9}{w:World}(h:Rel G σ w){sT xT ty:TypeId}{id:Nat}{s x v:AV}{u y:Value}(hs:Rep G s u)(hx:Rep G x y)
  (hid:G.pl id=none) (hlt:id<σ.next) (ha:E9 T σ id sT xT s x=some (v,σ')):J4 G σ w σ' id v ((Builtin.append_ #[sT,xT] ty #[u,y]).run P w):=by
 unfold E9 at ha
 split at ha
 ·rename_i h1 h2
  exact qo0 hT h h1 rfl h2 rfl hs hx hid hlt ha
 ·obtain⟨h1,h2,h3⟩:=lo0 h s
  obtain⟨G',u',w',a1,a2,a3,a4,a5,a6⟩:=oz0 (P:=P) hT h1 (ty:=ty) hs hx hid (by rw[h3];exact hlt) ha
  exact⟨G',u',w',a1,a2,a3,a4,a5,h2.trans a6⟩
def xg0(T:Tab)(t:TypeId)(x:AV):Option AV :=
 match T t,x with
 | some { und:=.slice _,.. },.sc (.slice none 0 0)=>some (.sc (goInt 0))
 | _,_=>none
theorem vQ0{P:Program}{T:Tab}(hT:C2 P T){G:j4}{σ:c9}{w:World}(h:Rel G σ w){t ty:TypeId}{id:Nat}{x v:AV}{u:Value}(hx:Rep G x u)(ha:xg0 T t x=some v) :
  J4 G σ w σ id v ((Builtin.cap_ #[t] ty #[u]).run P w):=by
 unfold xg0 at ha
 split at ha
 ·rename_i ht
  cases ha
  cases hx
  have hund:=B3 hT ht w
  simp only[Builtin.cap_,List.getElem?_toArray,List.getElem?_cons_zero,Sem.run_bind,hund,Result.andThen_ok,Sem.run_pure]
  exact J4.same (.sc _) h
 ·cases ha
end Go.Ab
namespace Go.Ab
open Go
variable [B0]
theorem AV.key_ok{G:j4}{x:AV}{u:Value}{b:Bool}{l:List Int}(h:x.key=some (b,l))(hx:Rep G x u):u=B6 b l:=by
 unfold AV.key at h
 split at h
 ·cases h;cases hx;rfl
 ·split at h
  ·rename_i cs l' hl
   cases h
   cases hx with
   | agg _ vs h1 h2=>rw[AV.i64s_ok hl ⟨h1,h2⟩];simp[B6]
  ·cases h
 ·cases h
def ck0(agg:Bool)(l l':List Int):Bool:=if agg then l==l' else l.headD 0==l'.headD 0
def J6(agg:Bool)(l:List Int):List (List Int×AV×Nat)->Nat->Option (Nat×AV)
 | [],_=>none
 | e::es,i=>if ck0 agg l e.1 then some (i,e.2.1)else J6 agg l es (i+1)
def V5(T:Tab)(kt:TypeId)(b:Bool)(l:List Int)(es:List (List Int×AV×Nat)):Bool :=
 match T kt with
 | some ti=>if b then ti.flat==some l.length&&es.all (fun e=>e.1.length==l.length)else (match ti.und with | .int _=>true | _=>false)
 | none=>false
def ci0(G:j4)(agg:Bool):List (List Int×AV×Nat)->List MapEntry->Prop
 | [],[]=>True
 | e::es,x::xs=>(x.key=B6 agg e.1/\Rep G e.2.1 x.val/\x.born=e.2.2)/\ci0 G agg es xs
 | _,_=>False
theorem ci0.length{G:j4}{agg:Bool}:∀ {es:List (List Int×AV×Nat)} {xs:List MapEntry},ci0 G agg es xs->xs.length=es.length
 | [],[],_=>rfl
 | [],_::_,h=>h.elim
 | _::_,[],h=>h.elim
 | _::es,_::xs,h=>by simp[ci0.length h.2]
theorem ci0.of{G:j4}{agg:Bool}:∀ {es:List (List Int×AV×Nat)} {xs:List MapEntry},xs.length=es.length->(∀ i (h:i<es.length) (h':i<xs.length),xs[i].key=B6 agg es[i].1/\Rep G es[i].2.1 xs[i].val/\xs[i].born=es[i].2.2)->ci0 G agg es xs
 | [],[],_,_=>trivial
 | [],_::_,h,_=>by simp at h
 | _::_,[],h,_=>by simp at h
 | e::es,x::xs,h,hh=>⟨hh 0 (by simp) (by simp),ci0.of (by simpa using h) (fun i h1 h2=>hh (i+1) (by simpa using h1) (by simpa using h2))⟩
theorem ci0.at{G:j4}{agg:Bool}:∀ {es:List (List Int×AV×Nat)} {xs:List MapEntry},ci0 G agg es xs->∀ i (h:i<es.length) (h':i<xs.length),xs[i].key=B6 agg es[i].1/\Rep G es[i].2.1 xs[i].val/\xs[i].born=es[i].2.2
 | [],[],_,i,h,_=>by simp at h
 | [],_::_,h,_,_,_=>h.elim
 | _::_,[],h,_,_,_=>h.elim
 | e::es,x::xs,h,0,_,_=>h.1
 | e::es,x::xs,h,i+1,h1,h2=>ci0.at h.2 i (by simpa using h1) (by simpa using h2)
theorem bP0{G:j4}{p:Pl}{agg:Bool}{es:List (List Int×AV×Nat)}{clock:Nat}{ho:Option Obj}(h:N2 G p (.map agg es clock) ho):∃ xs:List MapEntry,ho=some (.map xs.toArray clock)/\ci0 G agg es xs:=by
 obtain⟨ents,h1,h2,h3⟩:=h
 exact⟨ents.toList,by simpa using h1,.of (by simpa using h2) (fun i h h'=>by simpa using h3 i h (by simpa using h'))⟩
theorem dz0{G:j4}(p:Pl){agg:Bool}{es:List (List Int×AV×Nat)}(clock:Nat){xs:List MapEntry}(h:ci0 G agg es xs):N2 G p (.map agg es clock) (some (.map xs.toArray clock)) :=
 ⟨xs.toArray,rfl,by simpa using h.length,fun i h1 h2=>by simpa using h.at i h1 (by simpa using h2)⟩
def Found(G:j4)(k:Nat):Option (Nat×AV)->Option (Nat×Value)->Prop
 | none,none=>True
 | some (i,c),some (j,v)=>i=j/\k<=i/\Rep G c v
 | _,_=>False
theorem iz0{G:j4}(kd:IntKind)(l:List Int):∀ (es:List (List Int×AV×Nat)) (xs:List MapEntry) (i:Nat),ci0 G false es xs ->
  ∃ r,Instr.findNow (.int kd) (B6 false l) xs i=some r/\Found G i (J6 false l es i) r
 | [],[],i,_=>⟨none,rfl,trivial⟩
 | [],_::_,_,h=>h.elim
 | _::_,[],_,h=>h.elim
 | e::es,x::xs,i,h=>by
  obtain⟨⟨h1,h2,_⟩,h3⟩:=h
  by_cases e0:l.headD 0=e.1.headD 0
  ·refine⟨some (i,x.val),?_,?_⟩
   ·simp only[Instr.findNow,h1,B6,Bool.false_eq_true,if_false,Instr.sameNow,if_true,e0,BEq.rfl]
   ·simp only[J6,ck0,Bool.false_eq_true,if_false,e0,BEq.rfl,if_true];exact⟨rfl,Nat.le_refl _,h2⟩
  ·obtain⟨r,hr1,hr2⟩:=iz0 kd l es xs (i+1) h3
   refine⟨r,?_,?_⟩
   ·simp only[Instr.findNow,h1,B6,Bool.false_eq_true,if_false,Instr.sameNow,if_true]
    have:(l.headD 0==e.1.headD 0)=false:=by simpa using e0
    rw[this]
    simpa[B6]using hr1
   ·have:ck0 false l e.1=false:=by simpa[ck0]using e0
    simp only[J6,this,Bool.false_eq_true,if_false]
    cases hm:J6 false l es (i+1)with
    | none=>rw[hm]at hr2;cases r with
     | none=>trivial
     | some _=>exact hr2
    | some c =>
     obtain⟨ci,cc⟩:=c
     rw[hm]at hr2
     cases r with
     | none=>exact hr2
     | some q=>obtain⟨a1,a2,a3⟩:=hr2;exact⟨a1,by omega,a3⟩
theorem ej0{P:Program}{G:j4}{w:World}(kt:TypeId)(l:List Int)(hq:∀ bs:List Int,bs.length=l.length->(Op.equalIn 10000 kt (B6 true l) (B6 true bs)).run P w=.ok (l==bs) w) :
  ∀ (es:List (List Int×AV×Nat)) (xs:List MapEntry) (i:Nat),ci0 G true es xs->(∀ e∈es,e.1.length=l.length) ->
  ∃ r,(Instr.findAsking kt (B6 true l) xs i).run P w=.ok r w/\Found G i (J6 true l es i) r
 | [],[],i,_,_=>⟨none,rfl,trivial⟩
 | [],_::_,_,h,_=>h.elim
 | _::_,[],_,h,_=>h.elim
 | e::es,x::xs,i,h,hl=>by
  obtain⟨⟨h1,h2,_⟩,h3⟩:=h
  have he:=hq e.1 (hl e (by simp))
  by_cases e0:(l==e.1)=true
  ·refine⟨some (i,x.val),?_,?_⟩
   ·simp only[Instr.findAsking,h1,Op.equal,Op.maxDepth,Sem.run_bind,he,e0,Result.andThen_ok,if_true,Sem.run_pure]
   ·simp only[J6,ck0,if_true,e0];exact⟨rfl,Nat.le_refl _,h2⟩
  ·have e1:(l==e.1)=false:=by simpa using e0
   obtain⟨r,hr1,hr2⟩:=ej0 kt l hq es xs (i+1) h3 (fun e he=>hl e (by simp[he]))
   refine⟨r,?_,?_⟩
   ·simp only[Instr.findAsking,h1,Op.equal,Op.maxDepth,Sem.run_bind,he,e1,Result.andThen_ok,Bool.false_eq_true,if_false,hr1]
   ·simp only[J6,ck0,if_true,e1,Bool.false_eq_true,if_false]
    cases hm:J6 true l es (i+1)with
    | none=>rw[hm]at hr2;cases r with
     | none=>trivial
     | some _=>exact hr2
    | some c =>
     obtain⟨ci,cc⟩:=c
     rw[hm]at hr2
     cases r with
     | none=>exact hr2
     | some q=>obtain⟨a1,a2,a3⟩:=hr2;exact⟨a1,by omega,a3⟩
theorem kF0{P:Program}{w:World}(e:Bool)(n:Nat)(kt:TypeId)(k kd:IntKind)(m:Int)(h:(underlying kt).run P w=.ok (.int kd) w):(Instr.checkKey e (n+1) kt (.int k m)).run P w=.ok () w:=by
 simp only[Instr.checkKey,Sem.run_bind,h,Result.andThen_ok,Sem.run_pure]
theorem bD0{P:Program}{T:Tab}(hT:C2 P T){G:j4}{w:World}{kt:TypeId}{b:Bool}{l:List Int}{es:List (List Int×AV×Nat)}{xs:List MapEntry}(hx:ci0 G b es xs)(hf:V5 T kt b l es=true) :
  (∀ e,(Instr.checkKey e 10000 kt (B6 b l)).run P w=.ok () w)/\∃ r,(Instr.findKey kt (B6 b l) xs).run P w=.ok r w/\Found G 0 (J6 b l es 0) r:=by
 unfold V5 at hf
 split at hf
 ·rename_i ti ht
  cases b with
  | false =>
   simp only[Bool.false_eq_true,if_false]at hf
   split at hf
   ·rename_i kd hu
    have hund:=B3 hT ht w
    rw[hu]at hund
    refine⟨fun e=>?_,?_⟩
    ·exact kF0 e 9999 kt .i64 kd _ hund
    ·obtain⟨r,h1,h2⟩:=iz0 kd l es xs 0 hx
     exact⟨r,by simp only[Instr.findKey,Sem.run_bind,hund,Result.andThen_ok,h1,Sem.run_pure],h2⟩
   ·cases hf
  | true =>
   simp only[if_true,Bool.and_eq_true,beq_iff_eq]at hf
   obtain⟨hfl,hall⟩:=hf
   obtain⟨_,heq⟩:=hT.flat kt ti l.length ht hfl
   have hlen:∀ e∈es,e.1.length=l.length:=fun e he=>by simpa using List.all_eq_true.1 hall e he
   refine⟨fun e=>by simpa[B6]using(heq l l w rfl rfl).2 e,?_⟩
   obtain⟨r,h1,h2⟩:=ej0 (P:=P) (w:=w) kt l (fun bs hb=>by simpa[B6]using(heq l bs w rfl hb).1) es xs 0 hx hlen
   have hund:=B3 hT ht w
   cases es with
   | nil =>
    cases xs with
    | nil=>exact⟨none,by simp[Instr.findKey,hund,Instr.findNow],trivial⟩
    | cons _ _=>exact hx.elim
   | cons e es =>
    cases xs with
    | nil=>exact hx.elim
    | cons x xs =>
     refine⟨r,?_,h2⟩
     have hno:Instr.findNow ti.und (B6 true l) (x::xs) 0=none:=by
      unfold Instr.findNow
      have:Instr.sameNow ti.und (B6 true l) x.key=none:=by
       rw[hx.1.1];simp only[B6,if_true];cases ti.und<;>rfl
      rw[this]
     simp only[Instr.findKey,Sem.run_bind,hund,Result.andThen_ok,hno,h1]
 ·cases hf
def TI.zeroAV(ti:TI):AV:=.ofValue ti.zero
def Q6:List AV->Bool
 | [k,_]=>k.key.isSome
 | _=>false
theorem F2:∀ (rs:List (List AV)) (j:Nat),(w8 j rs).length=rs.length
 | [],_=>rfl
 | _::rs,j=>by simp[w8,F2 rs]
theorem Y2:∀ (rs:List (List AV)) (j i:Nat) (h:i<(w8 j rs).length) (h':i<rs.length),(w8 j rs)[i]=D5 (j+i) rs[i]
 | r::rs,j,0,_,_=>by simp[w8]
 | r::rs,j,i+1,h,h'=>by
  simp only[w8,List.getElem_cons_succ]
  rw[Y2 rs (j+1) i (by simpa[w8]using h) (by simpa using h')]
  congr 1;omega
theorem gp0(j:Nat)(r:List AV):(D5 j r).2.2=j:=by
 unfold D5
 split<;>rfl
def H9(T:Tab)(σ:c9)(t:TypeId)(x ix:AV)(commaOk:Bool):Option AV :=
 match T t,ix.key with
 | some { und:=.map kt et,.. },some (b,l) =>
  match T et with
  | some ei =>
   match x with
   | .mm id=>match σ.objs id with
    | some (.map agg es _)=>if (agg=b\/es.isEmpty=true)/\V5 T kt b l es=true then
      let r:=match J6 b l es 0 with
       | some (_,c)=>(c,true)
       | none=>(ei.zeroAV,false)
      some (if commaOk then .tup [r.1,.sc (.bool r.2)]else r.1)
     else none
    | _=>none
   | .rm (.rs rows)=>if (aK0 rows=b\/rows.isEmpty=true)/\V5 T kt b l (w8 0 rows)=true/\rows.all Q6=true then
      let r:=match J6 b l (w8 0 rows) 0 with
       | some (_,c)=>(c,true)
       | none=>(ei.zeroAV,false)
      some (if commaOk then .tup [r.1,.sc (.bool r.2)]else r.1)
     else none
   | _=>none
  | none=>none
 | _,_=>none
theorem hE0{P:Program}{T:Tab}(hT:C2 P T){G:j4}{σ:c9}{w:World}(h:Rel G σ w){t kt et:TypeId}{ti:TI}(ht:T t=some ti)(hu:ti.und=.map kt et){ei:TI}(hei:T et=some ei){id:Nat}{ix:AV}{y:Value}{ok:Bool}(hy:Rep G ix y)
  {b:Bool} {l:List Int} (hk:ix.key=some (b,l)) {agg:Bool} {es:List (List Int×AV×Nat)} {clock bl:Nat} {xs:List MapEntry} (hb:w.heap[bl]?=some (.map xs.toArray clock)) (hents0:ci0 G agg es xs) (hab:agg=b\/es.isEmpty=true) (hf:V5 T kt b l es=true) :
  J4 G σ w σ id (if ok then .tup [(match J6 b l es 0 with | some (_,c)=>(c,true) | none=>(ei.zeroAV,false)).1,.sc (.bool (match J6 b l es 0 with | some (_,c)=>(c,true) | none=>(ei.zeroAV,false)).2)]else (match J6 b l es 0 with | some (_,c)=>(c,true) | none=>(ei.zeroAV,false)).1) ((Instr.lookup t (.map (some bl)) y ok).run P w):=by
 obtain rfl:=AV.key_ok hk hy
 have hents:ci0 G b es xs:=by
  rcases hab with rfl | he
  ·exact hents0
  ·have he':es=[]:=by simpa using he
   subst he'
   have:xs=[]:=by have:=hents0.length;simpa using this
   subst this
   trivial
 obtain⟨hck,r,hfind,hfound⟩:=bD0 hT (P:=P) (w:=w) hents hf
 have O3:(getObj bl).run P w=.ok (.map xs.toArray clock) w:=by simp[getObj,Sem.run,hb]
 have hend:∀ (c:AV) (z:Value) (bb:Bool),Rep G c z->J4 G σ w σ id (if ok then .tup [c,.sc (.bool bb)]else c) (.ok (if ok then .tuple #[z,.bool bb]else z) w):=fun c z bb hr=>by
  refine J4.same ?_ h
  cases ok
  ·exact hr
  ·have:=Rep.tup (G:=G) [c,.sc (.bool bb)] [z,.bool bb] rfl (fun i h1 h2=>by
    cases i with
    | zero=>exact hr
    | succ i=>cases i with
     | zero=>exact .sc _
     | succ i=>simp at h1;omega)
   exact this
 have hund:=B3 hT ht w
 rw[hu]at hund
 simp only[Instr.lookup,Sem.run_bind,hund,Result.andThen_ok,O3,Sem.run_pure,hck,hfind]
 cases hm:J6 b l es 0 with
 | none =>
  rw[hm]at hfound
  cases r with
  | some _=>exact hfound.elim
  | none =>
   simp only[Sem.run_bind,ad0 hT hei,Result.andThen_ok,Sem.run_pure]
   exact hend _ _ false (Rep.ofValue G _)
 | some c =>
  obtain⟨ci,cc⟩:=c
  rw[hm]at hfound
  cases r with
  | none=>exact hfound.elim
  | some q =>
   obtain⟨qi,qv⟩:=q
   simp only[Sem.run_bind,Result.andThen_ok,Sem.run_pure]
   exact hend _ _ true hfound.2.2
theorem oC0{P:Program}{T:Tab}(hT:C2 P T){G:j4}{σ:c9}{w:World}(h:Rel G σ w){t:TypeId}{id:Nat}{x ix v:AV}{u y:Value}{ok:Bool}(hx:Rep G x u)(hy:Rep G ix y)
  (ha:H9 T σ t x ix ok=some v):J4 G σ w σ id v ((Instr.lookup t u y ok).run P w):=by
 unfold H9 at ha
 split at ha
 ·rename_i kt et _ _ _ _ b l ht hk
  split at ha
  ·rename_i ei hei
   split at ha
   ·rename_i id'
    split at ha
    ·rename_i agg es clock ho
     split at ha
     ·rename_i hc
      cases ha
      cases hx with
      | mm _ p hp =>
      have hv:p.virt=false:=by
       rcases h.lies ho hp with ⟨_,_,_,e2⟩ | ⟨e2,_⟩
       ·cases e2
       ·exact e2
      obtain⟨_,_,hobj⟩:=h.real ho hp hv
      obtain⟨xs,hb,hents0⟩:=bP0 hobj
      exact hE0 hT h ht rfl hei hy hk hb hents0 hc.1 hc.2
     ·cases ha
    ·cases ha
   ·rename_i rows
    split at ha
    ·rename_i hc
     cases ha
     cases hx with
     | rm _ bl ents himm hlen ij0 hrep =>
     have hb:=h.imm _ _ himm
     have hents:ci0 G (aK0 rows) (w8 0 rows) ents:=ci0.of (by rw[hlen,F2]) (fun i h1 h2=>by
      have h3:i<rows.length:=by rw[F2]at h1;exact h1
      rw[Y2 _ _ _ h1 h3]
      have e1:∀ a b:Nat,(D5 a rows[i]).1=(D5 b rows[i]).1:=fun a b=>by unfold D5;split<;>rfl
      have e2:∀ a b:Nat,(D5 a rows[i]).2.1=(D5 b rows[i]).2.1:=fun a b=>by unfold D5;split<;>rfl
      refine⟨by rw[e1 _ i];exact(ij0 i h3 h2).1,by rw[e2 _ i];exact hrep i h3 h2,by rw[(ij0 i h3 h2).2,gp0];omega⟩)
     refine hE0 hT h ht rfl hei hy hk hb hents ?_ hc.2.1
     rcases hc.1 with e | e
     ·exact .inl e
     ·refine .inr ?_
      have:rows=[]:=by simpa using e
      subst this;rfl
    ·cases ha
   ·cases ha
  ·cases ha
 ·cases ha
def mput(agg:Bool)(l:List Int)(v:AV)(clock:Nat)(es:List (List Int×AV×Nat)):List (List Int×AV×Nat)×Nat :=
 match J6 agg l es 0 with
 | some (i,_)=>(es.modify i (fun e=>(l,v,e.2.2)),clock)
 | none=>(es++[(l,v,clock)],clock+1)
def C6(T:Tab)(σ:c9)(t:TypeId)(x ix v:AV):Option c9 :=
 match T t,ix.key with
 | some { und:=.map kt _,.. },some (b,l) =>
  match x with
  | .mm id=>match σ.objs id with
   | some (.map agg es clock) =>
    if es.isEmpty/\V5 T kt b l []=true then some (σ.set id (.map b [(l,v,clock)] (clock+1)))
    else if agg=b/\V5 T kt b l es=true then some (σ.set id (.map agg (mput b l v clock es).1 (mput b l v clock es).2))
    else none
   | _=>none
  | _=>none
 | _,_=>none
theorem kN0{agg:Bool}{l l':List Int}(h:ck0 agg l l'=true):B6 agg l=B6 agg l':=by
 cases agg
 ·simp[ck0]at h;simp[B6,h]
 ·simp[ck0]at h;rw[h]
theorem jF0{agg:Bool}{l:List Int}:∀ {es:List (List Int×AV×Nat)} {k i:Nat} {c:AV},J6 agg l es k=some (i,c)->∃ e,es[i-k]?=some e/\k<=i/\ck0 agg l e.1=true/\e.2.1=c
 | [],k,i,c,h=>by simp[J6]at h
 | e::es,k,i,c,h=>by
  unfold J6 at h
  split at h
  ·rename_i he;cases h;exact⟨e,by simp,Nat.le_refl _,he,rfl⟩
  ·obtain⟨e',h1,h2,h3,h4⟩:=jF0 h
   refine⟨e',?_,by omega,h3,h4⟩
   have:i-k=(i-(k+1))+1:=by omega
   rw[this];simpa using h1
theorem fD0(agg:Bool)(l:List Int):Instr.sameBits 10000 (B6 agg l) (B6 agg l)=true:=by
 cases agg
 ·simp[B6,Instr.sameBits]
 ·simp only[B6,if_true]
  show (Instr.sameBits (9999+1) _ _)=true
  simp only[Instr.sameBits,BEq.rfl,Bool.true_and]
  have:∀ l:List Int,(((l.map (Value.int .i64)).zip (l.map (Value.int .i64))).all fun (x,y)=>Instr.sameBits 9999 x y)=true:=by
   intro l
   induction l with
   | nil=>rfl
   | cons a l ih =>
    simp only[List.map_cons,List.zip_cons_cons,List.all_cons,Bool.and_eq_true]
    exact⟨by simp[Instr.sameBits],ih⟩
  simpa using this l
theorem ci0.modify{G:j4}{agg:Bool}{l:List Int}{v:AV}{z:Value}(hv:Rep G v z):∀ {es:List (List Int×AV×Nat)} {xs:List MapEntry} (i:Nat),ci0 G agg es xs ->
  ci0 G agg (es.modify i (fun e=>(l,v,e.2.2))) (xs.modify i (fun x=>{ x with key:=B6 agg l,val:=z }))
 | [],[],i,_=>by simp[ci0]
 | [],_::_,_,h=>h.elim
 | _::_,[],_,h=>h.elim
 | e::es,x::xs,0,h=>by simp only[List.modify_zero_cons];exact⟨⟨rfl,hv,h.1.2.2⟩,h.2⟩
 | e::es,x::xs,i+1,h=>by simp only[List.modify_succ_cons];exact⟨h.1,ci0.modify hv i h.2⟩
theorem ci0.snoc{G:j4}{agg:Bool}{l:List Int}{v:AV}{z:Value}{c:Nat}(hv:Rep G v z):∀ {es:List (List Int×AV×Nat)} {xs:List MapEntry},ci0 G agg es xs ->
  ci0 G agg (es++[(l,v,c)]) (xs++[{ key:=B6 agg l,val:=z,born:=c }])
 | [],[],_=>⟨⟨rfl,hv,rfl⟩,trivial⟩
 | [],_::_,h=>h.elim
 | _::_,[],h=>h.elim
 | e::es,x::xs,h=>⟨h.1,ci0.snoc hv h.2⟩
theorem cW0{P:Program}{w:World}{b:Nat}{o x:Obj}(h:w.heap[b]?=some x)(hx:∀ c e f,x≠.cells c e f):(setObj b o).run P w=.ok () (D6 w b o):=by
 cases x with
 | cells c e f=>exact absurd rfl (hx c e f)
 | _=>simp[setObj,Sem.run,h,D6]
theorem ex0{P:Program}{T:Tab}(hT:C2 P T){G:j4}{σ σ':c9}{w:World}(h:Rel G σ w){t:TypeId}{x ix v:AV}{u y z:Value}(hx:Rep G x u)(hy:Rep G ix y)(hz:Rep G v z)
  (ha:C6 T σ t x ix v=some σ'):∃ w',(Instr.mapUpdate t u y z).run P w=.ok () w'/\Rel G σ' w'/\Fr G σ w G σ' w':=by
 unfold C6 at ha
 split at ha
 ·rename_i kt et _ _ _ _ b l ht hk
  split at ha
  ·rename_i id'
   split at ha
   ·rename_i agg es clock ho
    obtain rfl:=AV.key_ok hk hy
    cases hx with
    | mm _ p hp =>
    have hv:p.virt=false:=by
     rcases h.lies ho hp with ⟨_,_,_,e2⟩ | ⟨e2,_⟩
     ·cases e2
     ·exact e2
    obtain⟨_,_,hobj⟩:=h.real ho hp hv
    obtain⟨xs,hb,hents⟩:=bP0 hobj
    have O3:(getObj p.block).run P w=.ok (.map xs.toArray clock) w:=by simp[getObj,Sem.run,hb]
    have hset:∀ o,(setObj p.block o).run P w=.ok () (D6 w p.block o):=fun o=>cW0 hb (by intro _ _ _ h;cases h)
    have hrel:∀ (ag:Bool) (es':List (List Int×AV×Nat)) (xs':List MapEntry) (c:Nat),ci0 G ag es' xs'->Rel G (σ.set id' (.map ag es' c)) (D6 w p.block (.map xs'.toArray c))/\Fr G σ w G (σ.set id' (.map ag es' c)) (D6 w p.block (.map xs'.toArray c)):=fun ag es' xs' c he =>
     ⟨h.write ho hp hv _ _ rfl rfl rfl (F9 _ _ _) (fun k hk=>E2 _ _ _ _ hk) (R3 _ _ _ _ hb) (dz0 p c he),Fr.write ho hp hv _ (F9 _ _ _) (fun k hk=>E2 _ _ _ _ hk)⟩
    split at ha
    ·rename_i hc
     obtain⟨hemp,hf⟩:=hc
     cases ha
     have:es=[]:=by simpa using hemp
     subst this
     have:xs=[]:=by have:=hents.length;simpa using this
     subst this
     obtain⟨hck,r,hfind,hfound⟩:=bD0 hT (P:=P) (w:=w) (G:=G) (b:=b) (es:=[]) (xs:=[]) trivial hf
     have:r=none:=by cases r with
      | none=>rfl
      | some _=>exact hfound.elim
     subst this
     refine⟨D6 w p.block (.map ([({ key:=B6 b l,val:=z,born:=clock }:MapEntry)]).toArray (clock+1)),?_,hrel b _ _ _ ⟨⟨rfl,hz,rfl⟩,trivial⟩⟩
     simp only[Instr.mapUpdate,Sem.run_bind,B3 hT ht,Result.andThen_ok,O3,hck,hfind]
     simp[hset]
    ·split at ha
     ·rename_i hc
      obtain⟨rfl,hf⟩:=hc
      cases ha
      obtain⟨hck,r,hfind,hfound⟩:=bD0 hT (P:=P) (w:=w) hents hf
      cases hm:J6 agg l es 0 with
      | none =>
       rw[hm]at hfound
       have:r=none:=by cases r with
        | none=>rfl
        | some _=>exact hfound.elim
       subst this
       simp only[mput,hm]
       refine⟨D6 w p.block (.map (xs++[({ key:=B6 agg l,val:=z,born:=clock }:MapEntry)]).toArray (clock+1)),?_,hrel agg _ _ _ (hents.snoc hz)⟩
       simp only[Instr.mapUpdate,Sem.run_bind,B3 hT ht,Result.andThen_ok,O3,hck,hfind]
       simp[hset]
      | some c =>
       obtain⟨ci,cc⟩:=c
       rw[hm]at hfound
       cases r with
       | none=>exact hfound.elim
       | some q =>
        obtain⟨qi,qv⟩:=q
        obtain⟨rfl,_,_⟩:=hfound
        obtain⟨e,he1,_,he2,_⟩:=jF0 hm
        simp only[Nat.sub_zero]at he1
        obtain⟨hlt,rfl⟩:=List.getElem?_eq_some_iff.1 he1
        have hlt':ci<xs.length:=by rw[hents.length];exact hlt
        have ij0:xs[ci].key=B6 agg l:=by rw[(hents.at ci hlt hlt').1];exact(kN0 he2).symm
        simp only[mput,hm]
        refine⟨D6 w p.block (.map (xs.modify ci (fun x=>{ x with key:=B6 agg l,val:=z })).toArray clock),?_,hrel agg _ _ _ (hents.modify hz ci)⟩
        simp only[Instr.mapUpdate,Sem.run_bind,B3 hT ht,Result.andThen_ok,O3,hck,hfind]
        have hstay:(Instr.keyThatStays (((xs.toArray[ci]?).map (·.key)).getD (B6 agg l)) (B6 agg l)).run P w=.ok (B6 agg l) w:=by
         have:((xs.toArray[ci]?).map (·.key)).getD (B6 agg l)=B6 agg l:=by simp[hlt',ij0]
         rw[this]
         simp[Instr.keyThatStays,fD0]
        simp only[Sem.run_bind,hstay,Result.andThen_ok,hset]
        congr 3
        simp
     ·cases ha
   ·cases ha
  ·cases ha
 ·cases ha
end Go.Ab
namespace Go.Ab
open Go
variable [B0]
theorem oj0{G:j4}{σ:c9}{w:World}(h:Rel G σ w){id:Nat}{agg:Bool}{es:List (List Int×AV×Nat)}{clock:Nat}(ho:σ.objs id=some (.map agg es clock)){p:Pl}(hp:G.pl id=some p) :
  p.virt=false/\∃ xs:List MapEntry,w.heap[p.block]?=some (.map xs.toArray clock)/\ci0 G agg es xs:=by
 have hv:p.virt=false:=by
  rcases h.lies ho hp with ⟨_,_,_,e2⟩ | ⟨e2,_⟩
  ·cases e2
  ·exact e2
 obtain⟨_,_,hobj⟩:=h.real ho hp hv
 obtain⟨xs,hb,hents⟩:=bP0 hobj
 exact⟨hv,xs,hb,hents⟩
def O2(T:Tab)(σ:c9)(t:TypeId)(x ix:AV):Option (AV×c9) :=
 match T t,ix.key with
 | some { und:=.map kt et,.. },some (b,l) =>
  match T et with
  | some ei=>match x with
   | .mm id=>match σ.objs id with
    | some (.map agg es clock) =>
     if es.isEmpty/\V5 T kt b l []=true then some (.tup [ei.zeroAV,.sc (goInt clock)],σ.set id (.map b [(l,ei.zeroAV,clock)] (clock+1)))
     else if agg=b/\V5 T kt b l es=true then
      match J6 b l es 0 with
      | some (i,c)=>some (.tup [c,.sc (goInt (((es[i]?).map (·.2.2)).getD 0))],σ)
      | none=>some (.tup [ei.zeroAV,.sc (goInt clock)],σ.set id (.map agg (es++[(l,ei.zeroAV,clock)]) (clock+1)))
     else none
    | _=>none
   | _=>none
  | none=>none
 | _,_=>none
theorem Rep.tup2{G:j4}{a b:AV}{x y:Value}(h1:Rep G a x)(h2:Rep G b y):Rep G (.tup [a,b]) (.tuple #[x,y]) :=
 Rep.tup (G:=G) [a,b] [x,y] rfl (fun i hi hi'=>by
  match i,hi with
  | 0,_=>exact h1
  | 1,_=>exact h2)
theorem rz0{w:World}{b:Nat}{o:Obj}(h:w.heap[b]?=some o):D6 w b o=w:=by
 unfold D6
 have:w.heap.setIfInBounds b o=w.heap:=by
  obtain⟨hlt,e⟩:=Array.getElem?_eq_some_iff.1 h
  subst e
  apply Array.ext
  ·simp
  ·intro i h1 h2
   rw[Array.getElem_setIfInBounds]
   split
   ·rename_i hi;subst hi;rfl
   ·rfl
 rw[this]
theorem lg0{P:Program}{T:Tab}(hT:C2 P T){G:j4}{σ σ':c9}{w:World}(h:Rel G σ w){t:TypeId}{id:Nat}{x ix v:AV}{u y:Value}(hx:Rep G x u)(hy:Rep G ix y)
  (ha:O2 T σ t x ix=some (v,σ')):J4 G σ w σ' id v ((Instr.mapEntry t u y).run P w):=by
 unfold O2 at ha
 split at ha
 ·rename_i kt et _ _ _ _ b l ht hk
  split at ha
  ·rename_i ei hei
   split at ha
   ·rename_i id'
    split at ha
    ·rename_i agg es clock ho
     obtain rfl:=AV.key_ok hk hy
     cases hx with
     | mm _ p hp =>
     obtain⟨hv,xs,hb,hents⟩:=oj0 h ho hp
     have O3:(getObj p.block).run P w=.ok (.map xs.toArray clock) w:=by simp[getObj,Sem.run,hb]
     have hset:∀ o,(setObj p.block o).run P w=.ok () (D6 w p.block o):=fun o=>cW0 hb (by intro _ _ _ h;cases h)
     have hrel:∀ (ag:Bool) (es':List (List Int×AV×Nat)) (xs':List MapEntry) (c:Nat),ci0 G ag es' xs'->Rel G (σ.set id' (.map ag es' c)) (D6 w p.block (.map xs'.toArray c))/\Fr G σ w G (σ.set id' (.map ag es' c)) (D6 w p.block (.map xs'.toArray c)):=fun ag es' xs' c he =>
      ⟨h.write ho hp hv _ _ rfl rfl rfl (F9 _ _ _) (fun k hk=>E2 _ _ _ _ hk) (R3 _ _ _ _ hb) (dz0 p c he),Fr.write ho hp hv _ (F9 _ _ _) (fun k hk=>E2 _ _ _ _ hk)⟩
     have hz:Rep G ei.zeroAV ei.zero:=Rep.ofValue G _
     split at ha
     ·rename_i hc
      obtain⟨hemp,hf⟩:=hc
      cases ha
      have:es=[]:=by simpa using hemp
      subst this
      have:xs=[]:=by have:=hents.length;simpa using this
      subst this
      obtain⟨hck,r,hfind,hfound⟩:=bD0 hT (P:=P) (w:=w) (G:=G) (b:=b) (es:=[]) (xs:=[]) trivial hf
      have:r=none:=by cases r with
       | none=>rfl
       | some _=>exact hfound.elim
      subst this
      obtain⟨r1,r2⟩:=hrel b [(l,ei.zeroAV,clock)] [({ key:=B6 b l,val:=ei.zero,born:=clock }:MapEntry)] (clock+1) ⟨⟨rfl,hz,rfl⟩,trivial⟩
      refine⟨G,.tuple #[ei.zero,goInt clock],_,.refl G,fun _ _ h=>h,?_,Rep.tup2 hz (.sc _),r1,r2⟩
      simp only[Instr.mapEntry,Sem.run_bind,B3 hT ht,Result.andThen_ok,O3,hck,hfind,ad0 hT hei]
      simp[hset]
     ·split at ha
      ·rename_i hc
       obtain⟨rfl,hf⟩:=hc
       obtain⟨hck,r,hfind,hfound⟩:=bD0 hT (P:=P) (w:=w) hents hf
       split at ha
       ·rename_i ci cc hm
        cases ha
        rw[hm]at hfound
        cases r with
        | none=>exact hfound.elim
        | some q =>
         obtain⟨qi,qv⟩:=q
         obtain⟨rfl,_,hcv⟩:=hfound
         obtain⟨e,he1,_,he2,_⟩:=jF0 hm
         simp only[Nat.sub_zero]at he1
         obtain⟨hlt,rfl⟩:=List.getElem?_eq_some_iff.1 he1
         have hlt':ci<xs.length:=by rw[hents.length];exact hlt
         have ij0:xs[ci].key=B6 agg l:=by rw[(hents.at ci hlt hlt').1];exact(kN0 he2).symm
         have hborn:xs[ci].born=es[ci].2.2:=(hents.at ci hlt hlt').2.2
         have hsame:xs.toArray.modify ci (fun e=>{ e with key:=B6 agg l })=xs.toArray:=by
          apply Array.ext
          ·simp
          ·intro j h1 h2
           by_cases hj:ci=j
           ·subst hj
            rw[Array.getElem_modify_self]
            simp only[List.getElem_toArray]
            generalize xs[ci]=z at ij0
            cases z
            simp only at ij0
            rw[ij0]
           ·rw[Array.getElem_modify_of_ne hj]
         refine⟨G,.tuple #[qv,goInt (es[ci].2.2)],w,.refl G,fun _ _ h=>h,?_,Rep.tup2 hcv (by simpa[he1]using Rep.sc _),h,.refl _ _ _⟩
         simp only[Instr.mapEntry,Sem.run_bind,B3 hT ht,Result.andThen_ok,O3,hck,hfind]
         have hstay:(Instr.keyThatStays (((xs.toArray[ci]?).map (·.key)).getD (B6 agg l)) (B6 agg l)).run P w=.ok (B6 agg l) w:=by
          have:((xs.toArray[ci]?).map (·.key)).getD (B6 agg l)=B6 agg l:=by simp[hlt',ij0]
          rw[this]
          simp[Instr.keyThatStays,fD0]
         simp only[Sem.run_bind,hstay,Result.andThen_ok,hset,hsame,rz0 hb,Sem.run_pure]
         simp[hlt',hborn]
       ·rename_i hm
        cases ha
        rw[hm]at hfound
        have:r=none:=by cases r with
         | none=>rfl
         | some _=>exact hfound.elim
        subst this
        obtain⟨r1,r2⟩:=hrel agg _ _ (clock+1) (hents.snoc (l:=l) (c:=clock) hz)
        refine⟨G,.tuple #[ei.zero,goInt clock],_,.refl G,fun _ _ h=>h,?_,Rep.tup2 hz (.sc _),r1,r2⟩
        simp only[Instr.mapEntry,Sem.run_bind,B3 hT ht,Result.andThen_ok,O3,hck,hfind,ad0 hT hei]
        simp[hset]
      ·cases ha
    ·cases ha
   ·cases ha
  ·cases ha
 ·cases ha
def uY0(n:Int):List (List Int×AV×Nat)->Nat->Option Nat
 | [],_=>none
 | e::es,i=>if ((e.2.2:Int)==n)=true then some i else uY0 n es (i+1)
theorem su0{G:j4}{agg:Bool}(n:Int):∀ {es:List (List Int×AV×Nat)} {xs:List MapEntry} (k:Nat),ci0 G agg es xs->uY0 n es k=(xs.findIdx? fun x=>(x.born:Int)==n).map (·+k)
 | [],[],k,_=>by simp[uY0]
 | [],_::_,_,h=>h.elim
 | _::_,[],_,h=>h.elim
 | e::es,x::xs,k,⟨⟨h1,h2,h3⟩,h4⟩=>by
  unfold uY0
  rw[List.findIdx?_cons,h3]
  split
  ·simp
  ·rw[su0 n (k+1) h4]
   cases (xs.findIdx? fun x=>(x.born:Int)==n)with
   | none=>rfl
   | some j=>simp;omega
def H7(σ:c9)(x st v:AV):Option c9 :=
 match x,st with
 | .mm id,.sc (.int .i64 n)=>match σ.objs id with
  | some (.map agg es clock)=>match uY0 n es 0 with
   | some i=>some (σ.set id (.map agg (es.modify i (fun e=>(e.1,v,e.2.2))) clock))
   | none=>none
  | _=>none
 | _,_=>none
theorem ci0.setVal{G:j4}{agg:Bool}{v:AV}{z:Value}(hv:Rep G v z):∀ {es:List (List Int×AV×Nat)} {xs:List MapEntry} (i:Nat),ci0 G agg es xs ->
  ci0 G agg (es.modify i (fun e=>(e.1,v,e.2.2))) (xs.modify i (fun x=>{ x with val:=z }))
 | [],[],i,_=>by simp[ci0]
 | [],_::_,_,h=>h.elim
 | _::_,[],_,h=>h.elim
 | e::es,x::xs,0,h=>by simp only[List.modify_zero_cons];exact⟨⟨h.1.1,hv,h.1.2.2⟩,h.2⟩
 | e::es,x::xs,i+1,h=>by simp only[List.modify_succ_cons];exact⟨h.1,ci0.setVal hv i h.2⟩
theorem iq0{P:Program}{G:j4}{σ σ':c9}{w:World}(h:Rel G σ w){t:TypeId}{x st v:AV}{u y z:Value}(hx:Rep G x u)(hy:Rep G st y)(hz:Rep G v z)
  (ha:H7 σ x st v=some σ'):∃ w',(Instr.entryStore t u y z).run P w=.ok () w'/\Rel G σ' w'/\Fr G σ w G σ' w':=by
 unfold H7 at ha
 split at ha
 ·rename_i id' n
  split at ha
  ·rename_i agg es clock ho
   split at ha
   ·rename_i i hi
    cases ha
    cases hx with
    | mm _ p hp =>
    cases hy
    obtain⟨hv,xs,hb,hents⟩:=oj0 h ho hp
    have O3:(getObj p.block).run P w=.ok (.map xs.toArray clock) w:=by simp[getObj,Sem.run,hb]
    have hset:∀ o,(setObj p.block o).run P w=.ok () (D6 w p.block o):=fun o=>cW0 hb (by intro _ _ _ h;cases h)
    have hidx:(xs.findIdx? fun x=>(x.born:Int)==n)=some i:=by
     have:=su0 n 0 hents
     rw[hi]at this
     cases hf:(xs.findIdx? fun x=>(x.born:Int)==n)with
     | none=>rw[hf]at this;cases this
     | some j=>rw[hf]at this;simp at this;rw[this]
    refine⟨D6 w p.block (.map (xs.modify i (fun x=>{ x with val:=z })).toArray clock),?_,h.write ho hp hv _ _ rfl rfl rfl (F9 _ _ _) (fun k hk=>E2 _ _ _ _ hk) (R3 _ _ _ _ hb) (dz0 p clock (hents.setVal hz i)),Fr.write ho hp hv _ (F9 _ _ _) (fun k hk=>E2 _ _ _ _ hk)⟩
    have hidx':xs.toArray.findIdx? (fun e=>(e.born:Int)==n)=some i:=by rw[List.findIdx?_toArray];exact hidx
    simp[Instr.entryStore,Sem.run_bind,Result.andThen_ok,O3,asInt,asIntOf,hidx,hset]
   ·cases ha
  ·cases ha
 ·cases ha
end Go.Ab
namespace Go.Ab
open Go
variable [B0]
def aL0(G:j4)(σ:c9)(w:World)(σ':c9)(id:Nat)(v:AV)(r:Result Next):Prop :=
 ∃ G' u w',G.le G'/\(∀ i,i≠id->G.pl i=none->G'.pl i=none)/\(r=.ok (.value u) w'\/(r=.ok .skip w'/\u=undef))/\Rep G' v u/\Rel G' σ' w'/\Fr G σ w G' σ' w'
theorem aL0.of{P:Program}{G:j4}{σ σ':c9}{id:Nat}{v:AV}{s:Sem Value}{w:World}(h:J4 G σ w σ' id v (s.run P w)):aL0 G σ w σ' id v ((do pure (Next.value (<- s)):Sem Next).run P w):=by
 obtain⟨G',u,w',h1,h2,h3,h4,h5⟩:=h
 exact⟨G',u,w',h1,h2,.inl (by simp[h3]),h4,h5⟩
theorem aL0.unit{P:Program}{G:j4}{σ σ':c9}{id:Nat}{s:Sem Unit}{w w':World}(hs:s.run P w=.ok () w')(h:Rel G σ' w'/\Fr G σ w G σ' w'):aL0 G σ w σ' id (.sc undef) ((do s;pure Next.skip:Sem Next).run P w) :=
 ⟨G,undef,w',.refl G,fun _ _ h=>h,.inr ⟨by simp[hs],rfl⟩,.sc _,h⟩
theorem aL0.same{G:j4}{σ:c9}{id:Nat}{v:AV}{u:Value}{w:World}(hr:Rep G v u)(h:Rel G σ w):aL0 G σ w σ id v (.ok (.value u) w) :=
 ⟨G,u,w,.refl G,fun _ _ h=>h,.inl rfl,hr,h,.refl _ _ _⟩
def fJ0(T:Tab)(σ:c9)(t:TypeId)(x:AV):Option AV :=
 match T t with
 | some ti=>match ti.und,x with
  | .slice _,.ms _ _ _ len=>some (.sc (goInt len))
  | .slice _,.rs es=>some (.sc (goInt es.length))
  | .slice _,.sc (.slice none 0 0)=>some (.sc (goInt 0))
  | .string,.sc (.string s)=>some (.sc (goInt s.size))
  | .array n _,_=>some (.sc (goInt n))
  | .map _ _,.mm id=>match σ.objs id with
   | some (.map _ es _)=>some (.sc (goInt es.length))
   | _=>none
  | _,_=>none
 | none=>none
theorem xB0{P:Program}{T:Tab}(hT:C2 P T){G:j4}{σ:c9}{w:World}(h:Rel G σ w){t ty:TypeId}{id:Nat}{x v:AV}{u:Value}(hx:Rep G x u)(ha:fJ0 T σ t x=some v) :
  J4 G σ w σ id v ((Builtin.len_ #[t] ty #[u]).run P w):=by
 unfold fJ0 at ha
 split at ha
 ·rename_i ti ht
  have hund:=B3 hT ht w
  have go:∀ n:Int,(Builtin.len_ #[t] ty #[u]).run P w=.ok (goInt n) w->J4 G σ w σ id (.sc (goInt n)) ((Builtin.len_ #[t] ty #[u]).run P w):=fun n hn=>by rw[hn];exact J4.same (.sc _) h
  split at ha
  ·rename_i e i sz o len hu
   cases ha;rw[hu]at hund
   apply go
   cases hx<;>simp[Builtin.len_,hund]
  ·rename_i e es hu
   cases ha;rw[hu]at hund
   apply go
   cases hx<;>simp[Builtin.len_,hund]
  ·rename_i e hu
   cases ha;rw[hu]at hund
   apply go
   cases hx;simp[Builtin.len_,hund]
  ·rename_i s hu
   cases ha;rw[hu]at hund
   apply go
   cases hx;simp[Builtin.len_,hund]
  ·rename_i n e _ hu
   cases ha;rw[hu]at hund
   apply go
   simp[Builtin.len_,hund]
  ·rename_i k e id' hu
   split at ha
   ·rename_i agg es clock ho
    cases ha;rw[hu]at hund
    apply go
    cases hx with
    | mm _ p hp =>
    have hv:p.virt=false:=by
     rcases h.lies ho hp with ⟨_,_,_,e2⟩ | ⟨e2,_⟩
     ·cases e2
     ·exact e2
    obtain⟨_,_,hobj⟩:=h.real ho hp hv
    obtain⟨xs,hb,hents⟩:=bP0 hobj
    have O3:(getObj p.block).run P w=.ok (.map xs.toArray clock) w:=by simp[getObj,Sem.run,hb]
    simp[Builtin.len_,hund,O3,hents.length]
   ·cases ha
  ·cases ha
 ·cases ha
def dQ0(k:IntKind):Int->List AV->Option Value
 | a,[]=>some (.int k a)
 | a,.sc (.int _ b)::rest=>dQ0 k (if b > a then b else a) rest
 | _,_=>none
def dY0(k:IntKind):Int->List AV->Option Value
 | a,[]=>some (.int k a)
 | a,.sc (.int _ b)::rest=>dY0 k (if b<a then b else a) rest
 | _,_=>none
def uA0:List AV->Option Value
 | .sc (.int k a)::rest=>dQ0 k a rest
 | _=>none
def va0:List AV->Option Value
 | .sc (.int k a)::rest=>dY0 k a rest
 | _=>none
theorem li0{P:Program}{G:j4}{w:World}(k:IntKind):∀ (l:List AV) (vs:List Value) (a:Int) (v:Value),B7 G l vs->dQ0 k a l=some v->(vs.foldlM Builtin.max2 (.int k a):Sem Value).run P w=.ok v w
 | [],vs,a,v,h,ha=>by rw[h.nil_inv];simp[dQ0]at ha;subst ha;simp
 | c::l,vs,a,v,h,ha=>by
  obtain⟨x,vs',rfl,h1,h2⟩:=h.cons_inv
  unfold dQ0 at ha
  split at ha
  ·rename_i e;cases e
  ·rename_i k' b rest e
   cases e
   cases h1
   have:=li0 (P:=P) (w:=w) k l vs' _ v h2 ha
   simp only[List.foldlM_cons,Sem.run_bind,Builtin.max2,Sem.run_pure,Result.andThen_ok]
   exact this
  ·cases ha
theorem ly0{P:Program}{G:j4}{w:World}(k:IntKind):∀ (l:List AV) (vs:List Value) (a:Int) (v:Value),B7 G l vs->dY0 k a l=some v->(vs.foldlM Builtin.min2 (.int k a):Sem Value).run P w=.ok v w
 | [],vs,a,v,h,ha=>by rw[h.nil_inv];simp[dY0]at ha;subst ha;simp
 | c::l,vs,a,v,h,ha=>by
  obtain⟨x,vs',rfl,h1,h2⟩:=h.cons_inv
  unfold dY0 at ha
  split at ha
  ·rename_i e;cases e
  ·rename_i k' b rest e
   cases e
   cases h1
   have:=ly0 (P:=P) (w:=w) k l vs' _ v h2 ha
   simp only[List.foldlM_cons,Sem.run_bind,Builtin.min2,Sem.run_pure,Result.andThen_ok]
   exact this
  ·cases ha
theorem wX0{P:Program}{G:j4}{w:World}{l:List AV}{vs:List Value}{v:Value}{at_:Array TypeId}{ty:TypeId}(h:B7 G l vs)(ha:uA0 l=some v):(Builtin.max_ at_ ty vs.toArray).run P w=.ok v w:=by
 unfold uA0 at ha
 split at ha
 ·obtain⟨x,vs',rfl,h1,h2⟩:=h.cons_inv
  cases h1
  exact li0 _ _ _ _ _ h2 ha
 ·cases ha
theorem xe0{P:Program}{G:j4}{w:World}{l:List AV}{vs:List Value}{v:Value}{at_:Array TypeId}{ty:TypeId}(h:B7 G l vs)(ha:va0 l=some v):(Builtin.min_ at_ ty vs.toArray).run P w=.ok v w:=by
 unfold va0 at ha
 split at ha
 ·obtain⟨x,vs',rfl,h1,h2⟩:=h.cons_inv
  cases h1
  exact ly0 _ _ _ _ _ h2 ha
 ·cases ha
def F6(T:Tab)(σ:c9)(id:Nat)(b:Builtin)(ts:Array TypeId)(args:List AV):Option (AV×c9) :=
 match b,ts.toList,args with
 | .len,[t],[x]=>match fJ0 T σ t x with
  | some v=>some (v,σ)
  | none=>none
 | .append,[s,x],[a,c]=>E9 T σ id s x a c
 | .cap,[t],[x]=>match xg0 T t x with
  | some v=>some (v,σ)
  | none=>none
 | .max,_,l=>match uA0 l with
  | some v=>some (.sc v,σ)
  | none=>none
 | .min,_,l=>match va0 l with
  | some v=>some (.sc v,σ)
  | none=>none
 | _,_,_=>none
def aop(T:Tab)(ρ:Operand->AV)(σ:c9)(id:Nat)(op:Op):Option (AV×c9) :=
 match op with
 | .move x | .assign x=>some (ρ x,σ)
 | .pick c a b=>match ρ c with
  | .sc (.bool t)=>some (if t then ρ a else ρ b,σ)
  | _=>none
 | .alloc t=>fn0 T σ id t
 | .box t x=>tG0 σ id t (ρ x)
 | .build t ps=>match fv0 T t (ps.toList.map fun (i,x)=>(i,ρ x))with
  | some v=>some (v,σ)
  | none=>none
 | .buildSlice t len ps=>I0 T σ id t len (ps.toList.map fun (i,x)=>(i,ρ x))
 | .load t x=>match am0 T σ t (ρ x)with
  | some v=>some (v,σ)
  | none=>none
 | .store t a x=>match V4 T σ t (ρ a) (ρ x)with
  | some σ'=>some (.sc undef,σ')
  | none=>none
 | .nilCheck x=>match ρ x with
  | .mp i j k=>some (.mp i j k,σ)
  | .rp cs=>some (.rp cs,σ)
  | .fn (.func f) a b=>some (.fn (.func f) a b,σ)
  | _=>none
 | .binOp o t x y _=>match im0 T o t (ρ x) (ρ y)with
  | some v=>some (v,σ)
  | none=>none
 | .unOp o _ x=>match aUn o (ρ x)with
  | some v=>some (v,σ)
  | none=>none
 | .convert s d x=>match jz0 T s d (ρ x)with
  | some v=>some (v,σ)
  | none=>none
 | .makeFunc f a c=>some (.fn f (a.toList.map ρ) (c.toList.map ρ),σ)
 | .makeMap _ none=>some (.mm id,σ.set id (.map false [] 0))
 | .slice t x lo hi mx=>match bt0 T t (ρ x) (lo.map ρ) (hi.map ρ) (mx.map ρ)with
  | some v=>some (v,σ)
  | none=>none
 | .fieldAddr t x f=>match M7 T t (ρ x) f with
  | some v=>some (v,σ)
  | none=>none
 | .field t x f=>match gm0 T t (ρ x) f with
  | some v=>some (v,σ)
  | none=>none
 | .indexAddr t x i=>match D4 T t (ρ x) (ρ i)with
  | some v=>some (v,σ)
  | none=>none
 | .index t x i=>match cb0 T t (ρ x) (ρ i)with
  | some v=>some (v,σ)
  | none=>none
 | .lookup t x i ok=>match H9 T σ t (ρ x) (ρ i) ok with
  | some v=>some (v,σ)
  | none=>none
 | .mapUpdate t m k x | .insert t m k x=>match C6 T σ t (ρ m) (ρ k) (ρ x)with
  | some σ'=>some (.sc undef,σ')
  | none=>none
 | .mapEntry t m k=>O2 T σ t (ρ m) (ρ k)
 | .entryStore _ m s x=>match H7 σ (ρ m) (ρ s) (ρ x)with
  | some σ'=>some (.sc undef,σ')
  | none=>none
 | .extract x i=>match bN0 (ρ x) i with
  | some v=>some (v,σ)
  | none=>none
 | .call { callee:=.builtin b,args,argTypes }=>F6 T σ id b argTypes (args.toList.map ρ)
 | _=>none
theorem B7.map{G:j4}{ρ:Operand->AV}{ev:Operand->Value}(hρ:∀ x,Rep G (ρ x) (ev x)):∀ l:List Operand,B7 G (l.map ρ) (l.map ev)
 | []=>.nil G
 | x::l=>.cons (hρ x) (B7.map hρ l)
theorem B7.map2{G:j4}{ρ:Operand->AV}{ev:Operand->Value}(hρ:∀ x,Rep G (ρ x) (ev x))(l:List (Nat×Operand)) :
  (l.map fun (i,x)=>(i,ρ x)).map (·.1)=(l.map fun (i,x)=>(i,ev x)).map (·.1)/\B7 G ((l.map fun (i,x)=>(i,ρ x)).map (·.2)) ((l.map fun (i,x)=>(i,ev x)).map (·.2)):=by
 refine⟨by simp,?_⟩
 induction l with
 | nil=>exact .nil G
 | cons a l ih=>exact .cons (hρ a.2) ih
theorem pJ0.map{G:j4}{ρ:Operand->AV}{ev:Operand->Value}(hρ:∀ x,Rep G (ρ x) (ev x))(o:Option Operand):pJ0 G (o.map ρ) (o.map ev):=by
 cases o with
 | none=>trivial
 | some x=>exact hρ x
theorem rB0{P:Program}{T:Tab}(hT:C2 P T){G:j4}{σ σ':c9}{w:World}(h:Rel G σ w){ρ:Operand->AV}{ev:Operand->Value}(hρ:∀ x,Rep G (ρ x) (ev x)){id:Nat}(hid:G.pl id=none)(hlt:id<σ.next)
  {o:Oper} {v:AV} (ha:aop T ρ σ id o.op=some (v,σ')):aL0 G σ w σ' id v ((execOp ev o).run P w):=by
 cases hop:o.op with
 | move x =>
  rw[hop]at ha
  cases ha
  simp only[execOp,hop,Sem.run_pure]
  exact aL0.same (hρ x) h
 | assign x =>
  rw[hop]at ha
  cases ha
  simp only[execOp,hop,Sem.run_pure]
  exact aL0.same (hρ x) h
 | pick c a b =>
  rw[hop]at ha
  simp only[aop]at ha
  split at ha
  ·rename_i t hc
   cases ha
   have:=hρ c
   rw[hc]at this
   generalize hev:ev c=u at this
   cases this
   simp only[execOp,hop,hev,Sem.run_bind,asBool,Sem.run_pure,Result.andThen_ok]
   refine aL0.same ?_ h
   cases t<;>simp<;>exact hρ _
  ·cases ha
 | alloc t =>
  rw[hop]at ha
  simp only[aop]at ha
  simp only[execOp,hop]
  exact aL0.of (rl0 hT h hid hlt ha)
 | box t x =>
  rw[hop]at ha
  simp only[aop]at ha
  simp only[execOp,hop]
  exact aL0.of (xx0 h (hρ x) hid hlt ha)
 | build t ps =>
  rw[hop]at ha
  simp only[aop]at ha
  split at ha
  ·rename_i v' hv
   cases ha
   simp only[execOp,hop]
   obtain⟨h1,h2⟩:=B7.map2 hρ ps.toList
   have:=rS0 (P:=P) (id:=id) hT h h1 h2 hv
   refine aL0.of ?_
   have e:(ps.toList.map fun (x:Nat×Operand)=>(x.1,ev x.2)).toArray=ps.map fun x=>(x.1,ev x.2):=by
    apply Array.ext';simp
   rw[e]at this
   exact this
  ·cases ha
 | buildSlice t len ps =>
  rw[hop]at ha
  simp only[aop]at ha
  simp only[execOp,hop]
  obtain⟨h1,h2⟩:=B7.map2 hρ ps.toList
  have:=ii0 (P:=P) hT h h1 h2 hid hlt ha
  refine aL0.of ?_
  have e:(ps.toList.map fun (x:Nat×Operand)=>(x.1,ev x.2)).toArray=ps.map fun x=>(x.1,ev x.2):=by
   apply Array.ext';simp
  rw[e]at this
  exact this
 | load t x =>
  rw[hop]at ha
  simp only[aop]at ha
  split at ha
  ·rename_i v' hv
   cases ha
   simp only[execOp,hop]
   exact aL0.of (so0 hT h (hρ x) hv)
  ·cases ha
 | store t a x =>
  rw[hop]at ha
  simp only[aop]at ha
  split at ha
  ·rename_i σ1 hv
   cases ha
   simp only[execOp,hop]
   obtain⟨w',h1,h2⟩:=sx0 (P:=P) hT h (hρ a) (hρ x) hv
   exact aL0.unit h1 h2
  ·cases ha
 | nilCheck x =>
  rw[hop]at ha
  simp only[aop]at ha
  have hx:=hρ x
  simp only[execOp,hop]
  split at ha
  ·rename_i i j k e
   cases ha
   rw[e]at hx
   generalize ev x=u at hx
   have hx':=hx
   cases hx
   exact aL0.same hx' h
  ·rename_i cs e
   cases ha
   rw[e]at hx
   generalize ev x=u at hx
   have hx':=hx
   cases hx
   exact aL0.same hx' h
  ·rename_i f a b e
   cases ha
   rw[e]at hx
   generalize ev x=u at hx
   have hx':=hx
   cases hx
   exact aL0.same hx' h
  ·cases ha
 | binOp b t x y yt =>
  rw[hop]at ha
  simp only[aop]at ha
  split at ha
  ·rename_i v' hv
   cases ha
   simp only[execOp,hop]
   exact aL0.of (xq0 hT h (hρ x) (hρ y) hv)
  ·cases ha
 | unOp b t x =>
  rw[hop]at ha
  simp only[aop]at ha
  split at ha
  ·rename_i v' hv
   cases ha
   simp only[execOp,hop]
   exact aL0.of (aUn_ok h (hρ x) hv)
  ·cases ha
 | convert s d x =>
  rw[hop]at ha
  simp only[aop]at ha
  split at ha
  ·rename_i v' hv
   cases ha
   simp only[execOp,hop]
   exact aL0.of (tM0 hT h (hρ x) hv)
  ·cases ha
 | makeFunc f a c =>
  rw[hop]at ha
  cases ha
  simp only[execOp,hop]
  refine aL0.of ?_
  simp only[Instr.makeFunc,Sem.run_pure]
  refine J4.same ?_ h
  have h1:=B7.map hρ a.toList
  have h2:=B7.map hρ c.toList
  have:=Rep.fn (G:=G) f _ _ _ _ h1.1 h2.1 h1.2 h2.2
  have e:∀ l:Array Operand,(l.toList.map ev).toArray=l.map ev:=fun l=>by apply Array.ext';simp
  rw[e,e]at this
  exact this
 | makeMap t r =>
  rw[hop]at ha
  cases r with
  | some r=>simp[aop]at ha
  | none =>
   cases ha
   simp only[execOp,hop]
   refine aL0.of ?_
   simp only[Instr.makeMap,Sem.run_bind,run_newObj,Result.andThen_ok,Sem.run_pure,Option.map_none]
   let p:Pl:={ block:=w.heap.size,size:=1,cap:=1 }
   have hr:=h.push (.map #[] 0) id hid hlt p rfl rfl (.map false [] 0) ⟨#[],rfl,rfl,fun i hi=>by simp at hi⟩
   exact J4.place (p:=p) hid (.mm id p (j4.place_same _ _ _)) hr (Fr.push _ id hid p (fun _=>rfl) _ w.drawn)
 | slice t x lo hi mx =>
  rw[hop]at ha
  simp only[aop]at ha
  split at ha
  ·rename_i v' hv
   cases ha
   simp only[execOp,hop]
   exact aL0.of (ra0 hT h (hρ x) (pJ0.map hρ lo) (pJ0.map hρ hi) (pJ0.map hρ mx) hv)
  ·cases ha
 | fieldAddr t x f =>
  rw[hop]at ha
  simp only[aop]at ha
  split at ha
  ·rename_i v' hv
   cases ha
   simp only[execOp,hop]
   exact aL0.of (jN0 hT h (hρ x) hv)
  ·cases ha
 | field t x f =>
  rw[hop]at ha
  simp only[aop]at ha
  split at ha
  ·rename_i v' hv
   cases ha
   simp only[execOp,hop]
   exact aL0.of (sw0 hT h (hρ x) hv)
  ·cases ha
 | indexAddr t x i =>
  rw[hop]at ha
  simp only[aop]at ha
  split at ha
  ·rename_i v' hv
   cases ha
   simp only[execOp,hop]
   exact aL0.of (jw0 hT h (hρ x) (hρ i) hv)
  ·cases ha
 | index t x i =>
  rw[hop]at ha
  simp only[aop]at ha
  split at ha
  ·rename_i v' hv
   cases ha
   simp only[execOp,hop]
   exact aL0.of (qr0 hT h (hρ x) (hρ i) hv)
  ·cases ha
 | lookup t x i ok =>
  rw[hop]at ha
  simp only[aop]at ha
  split at ha
  ·rename_i v' hv
   cases ha
   simp only[execOp,hop]
   exact aL0.of (oC0 hT h (hρ x) (hρ i) hv)
  ·cases ha
 | mapUpdate t m k x =>
  rw[hop]at ha
  simp only[aop]at ha
  split at ha
  ·rename_i σ1 hv
   cases ha
   simp only[execOp,hop]
   obtain⟨w',h1,h2⟩:=ex0 (P:=P) hT h (hρ m) (hρ k) (hρ x) hv
   exact aL0.unit h1 h2
  ·cases ha
 | insert t m k x =>
  rw[hop]at ha
  simp only[aop]at ha
  split at ha
  ·rename_i σ1 hv
   cases ha
   simp only[execOp,hop]
   obtain⟨w',h1,h2⟩:=ex0 (P:=P) hT h (hρ m) (hρ k) (hρ x) hv
   exact aL0.unit h1 h2
  ·cases ha
 | mapEntry t m k =>
  rw[hop]at ha
  simp only[aop]at ha
  simp only[execOp,hop]
  exact aL0.of (lg0 hT h (hρ m) (hρ k) ha)
 | entryStore t m s x =>
  rw[hop]at ha
  simp only[aop]at ha
  split at ha
  ·rename_i σ1 he
   cases ha
   simp only[execOp,hop]
   obtain⟨w',h1,h2⟩:=iq0 (P:=P) (t:=t) h (hρ m) (hρ s) (hρ x) he
   exact aL0.unit h1 h2
  ·cases ha
 | extract x i =>
  rw[hop]at ha
  simp only[aop]at ha
  split at ha
  ·rename_i v' hv
   cases ha
   simp only[execOp,hop]
   exact aL0.of (mw0 h (hρ x) hv)
  ·cases ha
 | call c =>
  rw[hop]at ha
  obtain⟨callee,args,ts⟩:=c
  cases callee with
  | value f=>simp[aop]at ha
  | invoke r m=>simp[aop]at ha
  | builtin b =>
   simp only[aop]at ha
   have hargs:=B7.map hρ args.toList
   have eargs:(args.toList.map ev).toArray=args.map ev:=by apply Array.ext';simp
   simp only[execOp,hop,resolve,Sem.run_bind,Sem.run_pure,Result.andThen_ok,invoke]
   unfold F6 at ha
   split at ha
   ·rename_i t x hts hl
    split at ha
    ·rename_i v' hv
     cases ha
     have hts':ts=#[t]:=by apply Array.ext';simpa using hts
     rw[hl]at hargs
     obtain⟨u,us,e1,h1,h2⟩:=hargs.cons_inv
     rw[h2.nil_inv]at e1
     rw[<- eargs,e1,hts']
     exact aL0.of (xB0 hT h h1 hv)
    ·cases ha
   ·rename_i s x a c hts hl
    have hts':ts=#[s,x]:=by apply Array.ext';simpa using hts
    rw[hl]at hargs
    obtain⟨u,us,e1,h1,h2⟩:=hargs.cons_inv
    obtain⟨y,ys,e2,h3,h4⟩:=h2.cons_inv
    rw[h4.nil_inv]at e2
    rw[<- eargs,e1,e2,hts']
    exact aL0.of (mq0 hT h h1 h3 hid hlt ha)
   ·rename_i t x hts hl
    split at ha
    ·rename_i v' hv
     cases ha
     have hts':ts=#[t]:=by apply Array.ext';simpa using hts
     rw[hl]at hargs
     obtain⟨u,us,e1,h1,h2⟩:=hargs.cons_inv
     rw[h2.nil_inv]at e1
     rw[<- eargs,e1,hts']
     exact aL0.of (vQ0 hT h h1 hv)
    ·cases ha
   ·split at ha
    ·rename_i v' hv
     cases ha
     rw[<- eargs]
     refine aL0.of ?_
     rw[wX0 hargs hv]
     exact J4.same (.sc _) h
    ·cases ha
   ·split at ha
    ·rename_i v' hv
     cases ha
     rw[<- eargs]
     refine aL0.of ?_
     rw[xe0 hargs hv]
     exact J4.same (.sc _) h
    ·cases ha
   ·cases ha
 | _=>rw[hop]at ha;simp[aop]at ha
end Go.Ab
namespace Go.Ab
open Go
variable [B0]
def keyAV(agg:Bool)(l:List Int):AV:=if agg then .agg (l.map fun n=>.sc (.int .i64 n))else .sc (.int .i64 (l.headD 0))
def aRange(T:Tab)(σ:c9)(id:Nat)(t:TypeId)(x:AV):Option (AV×c9) :=
 match T t,x with
 | some { und:=.map _ _,.. },.mm m=>match σ.objs m with
  | some (.map _ _ clock)=>some (.it id,σ.set id (.miter (some m) clock [] clock))
  | _=>none
 | _,_=>none
def aNext(σ:c9)(x:AV):Option (AV×c9) :=
 match x with
 | .it id=>match σ.objs id with
  | some (.miter (some m) since seen last)=>match σ.objs m with
   | some (.map agg es clock) =>
    match (!seen.isEmpty&&!es.isEmpty&&es.all (fun e=>decide (last<=e.2.2)))with
    | true=>none
    | false=>match es.filter (fun e=>!seen.contains e.2.2)with
     | []=>some (.tup [.sc (.bool false)],σ)
     | [e]=>match decide (e.2.2<since)with
      | true=>some (.tup [.sc (.bool true),keyAV agg e.1,e.2.1],σ.set id (.miter (some m) since (seen++[e.2.2]) clock))
      | false=>none
     | _=>none
   | _=>none
  | _=>none
 | _=>none
def aEntry(σ:c9)(x:AV):Option AV :=
 match x with
 | .it id=>match σ.objs id with
  | some (.miter (some m) _ seen stepped)=>match seen.getLast?,σ.objs m with
   | some stamp,some (.map agg es clock)=>match Nat.beq clock stepped with
    | true=>match es.find? (fun e=>Nat.beq e.2.2 stamp)with
     | some e=>some (.tup [keyAV agg e.1,e.2.1])
     | none=>none
    | false=>none
   | _,_=>none
  | _=>none
 | _=>none
def vC0(T:Tab)(σ:c9)(t:TypeId)(x ix:AV):Option c9 :=
 match T t,ix.key with
 | some { und:=.map kt _,.. },some (b,l)=>match x with
  | .mm id=>match σ.objs id with
   | some (.map agg es clock)=>if (agg=b\/es.isEmpty=true)/\V5 T kt b l es=true then
     some (match J6 b l es 0 with
      | some (i,_)=>σ.set id (.map agg (es.eraseIdx i) clock)
      | none=>σ)
    else none
   | _=>none
  | _=>none
 | _,_=>none
def aClear(T:Tab)(σ:c9)(t:TypeId)(x:AV):Option c9 :=
 match T t,x with
 | some { und:=.slice elem,.. },.ms id size off (len+1)=>match T elem,σ.objs id with
  | some ei,some (.row e sz es)=>match ei.zero with
   | .int .i64 n=>if n=0/\sz=1/\size=1/\off+(len+1)<=es.length then some (σ.set id (.row e sz (es.take off++List.replicate (len+1) [.sc (.int .i64 0)]++es.drop (off+(len+1)))))else none
   | _=>none
  | _,_=>none
 | _,_=>none
def aop2(T:Tab)(ρ:Operand->AV)(σ:c9)(id:Nat)(op:Op):Option (AV×c9) :=
 match op with
 | .range t x=>aRange T σ id t (ρ x)
 | .next it false=>aNext σ (ρ it)
 | .entry it=>match aEntry σ (ρ it)with
  | some v=>some (v,σ)
  | none=>none
 | .call { callee:=.builtin .delete,args:=⟨[m,k]⟩,argTypes:=⟨[t,_]⟩ }=>match vC0 T σ t (ρ m) (ρ k)with
  | some σ'=>some (.sc (.tuple #[]),σ')
  | none=>none
 | .call { callee:=.builtin .clear,args:=⟨[x]⟩,argTypes:=⟨[t]⟩ }=>match aClear T σ t (ρ x)with
  | some σ'=>some (.sc (.tuple #[]),σ')
  | none=>none
 | op=>aop T ρ σ id op
end Go.Ab
namespace Go.Ab
open Go
variable [B0]
structure AS where
 n:Nat
 tr:Tr AV
 st:c9
def AS.get(s:AS)(t:Nat):AV:=(s.tr.get t).getD (.sc undef)
def AS.put(s:AS)(d:Option Tmp)(v:AV):AS :=
 match d with
 | some d=>{ s with tr:=s.tr.set d (some v) }
 | none=>s
def AS.eval(s:AS):Operand->AV
 | .tmp t=>s.get t
 | .const v=>.ofValue v
 | .global g=>.sc (.pointer (some ⟨g,0,none⟩))
 | .func f=>.fn (.func f) [] []
theorem AS.get_put(s:AS)(d:Nat)(v:AV)(t:Nat):(s.put (some d) v).get t=if t=d then v else s.get t:=by
 simp only[AS.get,AS.put,Tr.get_set]
 split<;>rfl
@[simp] theorem AS.put_n (s:AS) (d:Option Tmp) (v:AV):(s.put d v).n=s.n:=by cases d<;>rfl
@[simp] theorem AS.put_st (s:AS) (d:Option Tmp) (v:AV):(s.put d v).st=s.st:=by cases d<;>rfl
structure aG0(G:j4)(s:AS)(a:Act)(w:World):Prop where
 defers:a.defers=[]
 size:a.tmps.size=s.n
 tmps:∀ t,Rep G (s.get t) (a.tmps.getD t undef)
 rel:Rel G s.st w
theorem aG0.eval{G:j4}{s:AS}{a:Act}{w:World}(h:aG0 G s a w)(x:Operand):Rep G (s.eval x) (a.eval x):=by
 cases x with
 | tmp t=>exact h.tmps t
 | const v=>exact Rep.ofValue G v
 | global g=>exact .sc _
 | func f=>exact .fn _ [] [] [] [] rfl rfl (fun i h=>by simp at h) (fun i h=>by simp at h)
def S8(n:Nat):Option Tmp->Bool
 | some d=>d<n
 | none=>true
theorem aG0.put{G G':j4}{s:AS}{a:Act}{w w':World}{σ':c9}(h:aG0 G s a w)(hG:G.le G')(hr:Rel G' σ' w'){v:AV}{u:Value}(hv:Rep G' v u){d:Option Tmp}(hd:S8 s.n d=true) :
  aG0 G' ({ s with st:=σ' }.put d v) (a.put d u) w':=by
 cases d with
 | none=>exact⟨h.defers,h.size,fun t=>(h.tmps t).mono hG,hr⟩
 | some d =>
  refine⟨h.defers,by simp[Act.put,AS.put,h.size],fun t=>?_,hr⟩
  rw[AS.get_put]
  simp only[S8,decide_eq_true_eq]at hd
  simp only[Act.put]
  by_cases e:t=d
  ·subst e
   rw[if_pos rfl]
   simp[h.size,hd];exact hv
  ·rw[if_neg e]
   have:(a.tmps.setIfInBounds d u).getD t undef=a.tmps.getD t undef:=by
    simp[Array.getElem?_setIfInBounds,Ne.symm e]
   rw[this]
   exact(h.tmps t).mono hG
def mv0(n:Nat)(G G':j4):Prop:=∀ i,i<n->G.pl i=none->G'.pl i=none
theorem mv0.refl(n:Nat)(G:j4):mv0 n G G:=fun _ _ h=>h
theorem mv0.trans{n m:Nat}{A B C:j4}(h:mv0 n A B)(k:mv0 m B C)(hnm:n<=m):mv0 n A C:=fun i hi ha=>k i (by omega) (h i hi ha)
structure lL0(n:Nat)(G:j4)(σ:c9)(w:World)(G':j4)(σ':c9)(w':World):Prop where
 le:G.le G'
 keeps:mv0 n G G'
 next:σ.next<=σ'.next
 fr:Fr G σ w G' σ' w'
theorem lL0.refl(n:Nat)(G:j4)(σ:c9)(w:World):lL0 n G σ w G σ w:=⟨.refl G,.refl n G,Nat.le_refl _,.refl G σ w⟩
theorem lL0.trans{n m:Nat}{G1 G2 G3:j4}{σ1 σ2 σ3:c9}{w1 w2 w3:World}(h:lL0 n G1 σ1 w1 G2 σ2 w2)(k:lL0 m G2 σ2 w2 G3 σ3 w3)(hnm:n<=m):lL0 n G1 σ1 w1 G3 σ3 w3 :=
 ⟨h.le.trans k.le,h.keeps.trans k.keeps hnm,Nat.le_trans h.next k.next,h.fr.trans k.fr⟩
def bp0(P:Program)(f:FuncId)(args:List AV)(σ:c9)(R:AV->c9->Prop):Prop :=
 ∀ G vs w,B7 G args vs->Rel G σ w->Calls P f vs.toArray w fun e w'=>∃ v av σ' G',e=.returned v/\lL0 σ.next G σ w G' σ' w'/\Rep G' av v/\Rel G' σ' w'/\R av σ'
def C1(P:Program)(f:FuncId)(args:List AV)(σ:c9)(R:AV->c9->Prop):Prop :=
 ∀ G vs w,B7 G args vs->Rel G σ w->∀ (o:Oper) (a:Act) (K:Act->World->Prop) (Q:Exit->Act->World->Prop),
  (∀ u av σ' G' w',lL0 σ.next G σ w G' σ' w'->Rep G' av u->Rel G' σ' w'->R av σ'->K (a.put o.dst u) w')->o.upon P a K Q ((callFunc f vs.toArray).run P w)
theorem C1.of_calls {P:Program} {f:FuncId} {args:List AV} {σ:c9} {R:AV->c9->Prop} {fn:Func} (hfn:P.funcs[f]?=some fn) (hname:(fn.name== "runtime.NumGoroutine")=false) (hbody:fn.body.isNone=false)
  (h:bp0 P f args σ R):C1 P f args σ R:=by
 intro G vs w h1 h2 o a K Q hK
 have hrun:(callFunc f vs.toArray).run P w=.ok (.enter f vs.toArray) w:=by
  simp only[callFunc,Sem.run_bind,run_program,Result.andThen_ok,hfn,hname,hbody,Bool.false_eq_true,if_false,Sem.run_pure]
 rw[hrun]
 simp only[Oper.upon]
 refine(h G _ w h1 h2).mono ?_
 rintro e w' ⟨v,av,σ',G',rfl,b1,b3,b4,b6⟩
 exact hK v av σ' G' w' b1 b3 b4 b6
theorem C1.of_extern{P:Program}{f:FuncId}{args:List AV}{σ:c9}{R:AV->c9->Prop}(av:AV)(hR:R av σ)
  (h:∀ G vs w,B7 G args vs->Rel G σ w->∃ u,(callFunc f vs.toArray).run P w=.ok (.value u) w/\Rep G av u):C1 P f args σ R:=by
 intro G vs w h1 h2 o a K Q hK
 obtain⟨u,hu,hr⟩:=h G vs w h1 h2
 rw[hu]
 exact hK u av σ G w (.refl _ _ _ _) hr h2 hR
def AWp(P:Program)(c:Code)(Q:Exit->AS->Prop)(s:AS):Prop :=
 ∀ G a w,aG0 G s a w->c.wp P (fun e a' w'=>∃ s' G',lL0 s.st.next G s.st w G' s'.st w'/\aG0 G' s' a' w'/\Q e s') a w
section
variable {P:Program} {Q:Exit->AS->Prop} {s:AS}
theorem AWp.skip(h:Q .normal s):AWp P .skip Q s:=fun G _ _ hr=>wp_skip ⟨s,G,.refl _ _ _ _,hr,h⟩
theorem AWp.label{l:Nat}(h:Q .normal s):AWp P (.label l) Q s:=fun G _ _ hr=>wp_label ⟨s,G,.refl _ _ _ _,hr,h⟩
theorem AWp.exit{id:Nat}(h:Q (.exit id) s):AWp P (.exit id) Q s:=fun G _ _ hr=>wp_exit ⟨s,G,.refl _ _ _ _,hr,h⟩
theorem AWp.ret(h:Q .ret s):AWp P .ret Q s:=fun G _ _ hr=>wp_ret ⟨s,G,.refl _ _ _ _,hr,h⟩
def mL0(K:AS->Prop)(Q:Exit->AS->Prop):Exit->AS->Prop
 | .normal,s=>K s
 | e,s=>Q e s
theorem AWp.seq{x y:Code}(h:AWp P x (mL0 (AWp P y Q) Q) s):AWp P (.seq x y) Q s:=by
 intro G a w hr
 refine wp_seq (wp_mono (h G a w hr) ?_)
 rintro e a' w' ⟨s',G',a1,a2,a3⟩
 cases e with
 | normal =>
  refine wp_mono (a3 G' a' w' a2) ?_
  rintro e2 a2' w2 ⟨s2,G2,b1,b2,b3⟩
  exact⟨s2,G2,a1.trans b1 a1.next,b2,b3⟩
 | _=>exact⟨s',G',a1,a2,a3⟩
theorem AWp.cond{c:Operand}{x y:Code}{t:Bool}(hc:s.eval c=.sc (.bool t))(h:AWp P (if t then x else y) Q s):AWp P (.cond c x y) Q s:=by
 intro G a w hr
 have:=hr.eval c
 rw[hc]at this
 generalize hev:a.eval c=u at this
 cases this
 exact wp_cond hev (h G a w hr)
def fW0(id:Nat)(Q:Exit->AS->Prop):Exit->AS->Prop
 | .exit id',s=>if id'=id then Q .normal s else Q (.exit id') s
 | e,s=>Q e s
def noGo:Exit->Prop
 | .goto _=>False
 | _=>True
end
def E3(ops:Array Oper)(s:AS)(o:Oper):Option Bool :=
 match o.guard with
 | none=>some true
 | some (j,want)=>match (ops[j]?).bind (·.dst)with
  | some d=>if d<s.n then
    match s.get d with
    | .sc (.bool b)=>some (b==want)
    | .sc (.tuple _)=>some false
    | _=>none
   else none
  | none=>none
theorem S7{ops:Array Oper}{s:AS}{o:Oper}{b:Bool}{G:j4}{a:Act}{w:World}(h:aG0 G s a w)(ha:E3 ops s o=some b):Region.wanted o (yielded ops a.tmps)=b:=by
 unfold E3 at ha
 unfold Region.wanted
 split at ha
 ·rename_i hg;cases ha;simp[hg]
 ·rename_i j want hg
  simp only[hg]
  split at ha
  ·rename_i d hd
   split at ha
   ·rename_i hlt
    have ht:=h.tmps d
    have O3:a.tmps[d]?=some (a.tmps.getD d undef):=by simp[h.size,hlt]
    simp only[yielded,hd,Option.bind_some,O3]
    split at ha
    ·rename_i b' hb
     cases ha
     rw[hb]at ht
     generalize a.tmps.getD d undef=u at ht
     cases ht
     cases b'<;>cases want<;>rfl
    ·rename_i hb
     cases ha
     rw[hb]at ht
     generalize a.tmps.getD d undef=u at ht
     cases ht
     cases want<;>rfl
    ·cases ha
   ·cases ha
  ·cases ha
def cl0(P:Program)(ops:Array Oper)(n0:Nat)(Q:AS->Prop)(l:List Nat)(s:AS):Prop :=
 ∀ G a w,aG0 G s a w->(∀ j∈l,j<ops.size/\G.pl (n0+j)=none)->n0+ops.size<=s.st.next ->
  wpOps P ops (fun e a' w'=>e=.normal/\∃ s' G',lL0 n0 G s.st w G' s'.st w'/\aG0 G' s' a' w'/\Q s') l a w
section
variable {P:Program} {ops:Array Oper} {n0:Nat} {Q:AS->Prop} {s:AS}
theorem C9{Q Q':Exit->Act->World->Prop}(h:∀ e a w,Q e a w->Q' e a w):∀ (l:List Nat) (a:Act) (w:World),wpOps P ops Q l a w->wpOps P ops Q' l a w
 | [],a,w,hh=>h _ _ _ hh
 | i::rest,a,w,hh=>by
  simp only[wpOps]at hh ⊢
  split
  ·rename_i ho;simp only[ho]at hh;exact C9 h rest a w hh
  ·rename_i o ho
   simp only[ho]at hh
   split
   ·rename_i hw
    simp only[hw,if_true]at hh
    rcases hh with hh | ⟨h1,a0,w0,h2⟩
    ·left
     unfold Oper.wp at *
     generalize (execOp a.eval o).run P w=r at *
     cases r with
     | ok n w' =>
      cases n<;>simp only[Oper.upon]at hh ⊢ <;>
       first
        | exact C9 h rest _ _ hh
        | exact Calls.mono hh (fun e w'' he=>by
          cases e with
          | returned v=>exact C9 h rest _ _ he
          | panicked c=>exact h _ _ _ he
          | outgrown=>obtain⟨a0,w0,h0⟩:=he;exact⟨a0,w0,h _ _ _ h0⟩)
        | exact Rows.mono hh (fun _ _ he=>C9 h rest _ _ he)
     | halt x w'=>cases x<;>simp only[Oper.upon]at hh ⊢<;>first | exact h _ _ _ hh | exact hh
    ·exact .inr ⟨h1,a0,w0,h _ _ _ h2⟩
   ·rename_i hw
    simp only[hw]at hh
    exact C9 h rest _ _ hh
theorem cl0.nil(h:Q s):cl0 P ops n0 Q [] s:=fun G _ _ hr _ _=>⟨rfl,s,G,.refl _ _ _ _,hr,h⟩
theorem cl0.plain{T:Tab}(hT:C2 P T){i:Nat}{rest:List Nat}{o:Oper}{v:AV}{σ':c9}(ho:ops[i]?=some o)(hi:i∉rest)(hw:E3 ops s o=some true)(hd:S8 s.n o.dst=true)
  (ha:aop T s.eval s.st (n0+i) o.op=some (v,σ')) (hnx:σ'.next=s.st.next) (h:cl0 P ops n0 Q rest ({ s with st:=σ' }.put o.dst v)):cl0 P ops n0 Q (i::rest) s:=by
 intro G a w hr hf hn
 have hlt:i<ops.size:=(Array.getElem?_eq_some_iff.1 ho).1
 simp only[wpOps,ho,S7 hr hw,if_true]
 left
 obtain⟨G',u,w',h1,h2,h3,h4,h5,hfr⟩:=rB0 (P:=P) hT hr.rel hr.eval (hf i (by simp)).2 (by omega) ha
 have hne:∀ j∈rest,n0+j≠n0+i:=fun j hj e=>hi (by have e':j=i:=Nat.add_left_cancel e;rw[<- e'];exact hj)
 have key:=h G' (a.put o.dst u) w' (hr.put h1 h5 h4 hd) (fun j hj=>⟨(hf j (by simp[hj])).1,h2 _ (hne j hj) (hf j (by simp[hj])).2⟩) (by simp;omega)
 have ht:lL0 n0 G s.st w G' σ' w':=⟨h1,fun i' hi' hg=>h2 i' (by omega) hg,by omega,hfr⟩
 have key':=C9 (P:=P) (ops:=ops) (Q':=fun e a' w'=>e=.normal/\∃ s' G',lL0 n0 G s.st w G' s'.st w'/\aG0 G' s' a' w'/\Q s') (fun e a' w' ⟨e1,s',G2,b1,b2,b3⟩ =>
  ⟨e1,s',G2,ht.trans (by simpa using b1) (Nat.le_refl _),b2,b3⟩) rest _ _ key
 unfold Oper.wp
 rcases h3 with h3 | ⟨h3,h6⟩
 ·rw[h3];exact key'
 ·rw[h3];subst h6;exact key'
end
end Go.Ab
namespace Go.Ab
open Go
variable [B0]
theorem AWp.region{P:Program}{Q:Exit->AS->Prop}{s:AS}{id:Nat}{ops:Array Oper}
  (h:cl0 P ops s.st.next (fun s'=>Q .normal s') (List.range ops.size) { s with st:={ s.st with next:=s.st.next+ops.size } }):AWp P (.region id ops false) Q s:=by
 intro G a w hr
 refine wp_region ?_
 have hr':aG0 G { s with st:={ s.st with next:=s.st.next+ops.size } } a w:=⟨hr.defers,hr.size,hr.tmps,hr.rel.next (Nat.le_add_right _ _)⟩
 refine C9 ?_ _ _ _ (h G a w hr' (fun j hj=>⟨by simpa using hj,hr.rel.fresh _ (Nat.le_add_right _ _)⟩) (Nat.le_refl _))
 rintro e a' w' ⟨rfl,s',G',b1,b2,b3⟩
 refine⟨s',G',⟨b1.le,b1.keeps,Nat.le_trans (Nat.le_add_right _ _) b1.next,?_⟩,b2,b3⟩
 exact(Fr.less (σ:=s.st) (σ':={ s.st with next:=s.st.next+ops.size }) (fun _ _ h=>h)).trans b1.fr
def uB0:List AV->Nat->Tr AV->Tr AV
 | [],_,t=>t
 | v::vs,i,t=>uB0 vs (i+1) (t.set i (some v))
theorem oc0:∀ (vs:List AV) (i:Nat) (t:Tr AV) (k:Nat),(uB0 vs i t).get k=if i<=k/\k<i+vs.length then vs[k-i]? else t.get k
 | [],i,t,k=>by simp[uB0];intro h1 h2;omega
 | v::vs,i,t,k=>by
  rw[uB0,oc0 vs (i+1) _ k,Tr.get_set]
  simp only[List.length_cons]
  by_cases e:k=i
  ·subst e
   rw[if_neg (by omega),if_pos rfl,if_pos (by omega)];simp
  ·by_cases e2:i+1<=k/\k<i+1+vs.length
   ·rw[if_pos e2,if_pos (by omega)]
    obtain⟨m,hm⟩:∃ m,k-i=m+1:=⟨k-i-1,by omega⟩
    rw[hm];simp;congr 1;omega
   ·rw[if_neg e2,if_neg e,if_neg (by omega)]
def AS.enter(n:Nat)(args:List AV)(σ:c9):AS:={ n:=n,tr:=uB0 args 0 .leaf,st:=σ }
theorem AS.enter_get(n:Nat)(args:List AV)(σ:c9)(t:Nat):(AS.enter n args σ).get t=(args[t]?).getD (.sc undef):=by
 simp only[AS.get,AS.enter,oc0,Tr.get_leaf,Nat.zero_le,true_and,Nat.zero_add,Nat.sub_zero]
 split
 ·rfl
 ·rw[List.getElem?_eq_none (by omega)]
theorem aG0.enter{G:j4}{args:List AV}{vs:List Value}{σ:c9}{w:World}(ha:B7 G args vs)(hr:Rel G σ w)(n:Nat)(hn:args.length<=n) :
  aG0 G (AS.enter n args σ) { tmps:=vs.toArray++Array.replicate (n-vs.toArray.size) undef,defers:=[] } w:=by
 refine⟨rfl,by simp[AS.enter,ha.1];omega,fun t=>?_,hr⟩
 rw[AS.enter_get]
 by_cases ht:t<args.length
 ·have h1:t<vs.length:=by rw[ha.1];exact ht
  have:=ha.2 t ht h1
  simpa[ht,h1,Array.getElem?_append]using this
 ·have h1:¬ t<vs.length:=by rw[ha.1];exact ht
  have e:(vs.toArray++Array.replicate (n-vs.toArray.size) undef).getD t undef=undef:=by
   simp only[Array.getD_eq_getD_getElem?,Array.getElem?_append,List.size_toArray,if_neg h1]
   by_cases h2:t-vs.length<n-vs.length
   ·simp[h2]
   ·simp[h2]
  rw[e,List.getElem?_eq_none (by omega)]
  exact .sc _
theorem qI0{P:Program}{T:Tab}(hT:C2 P T){G:j4}{σ:c9}{w:World}(h:Rel G σ w){t:TypeId}{x v:AV}{u:Value}(hx:Rep G x u)(ha:V1 T σ t x=some v) :
  ∃ y,(do loadVar t (<- asAddr u):Sem Value).run P w=.ok y w/\Rep G v y:=by
 cases hx with
 | mp id' i j p hp =>
  simp only[V1]at ha
  cases ho:σ.objs id' with
  | none=>simp[ho]at ha
  | some o =>
   cases o with
   | row elem size es =>
    simp only[ho]at ha
    cases he:es[i]? with
    | none=>simp[he]at ha
    | some cs =>
     simp only[he]at ha
     cases ht:T t with
     | none=>simp[ht]at ha
     | some ti =>
      simp only[ht]at ha
      obtain⟨hi,hie⟩:=List.getElem?_eq_some_iff.1 he
      have hv:p.virt=false:=by
       rcases h.lies ho hp with ⟨_,e,s,h2⟩ | ⟨h2,_⟩
       ·cases h2;simp at hi
       ·exact h2
      obtain⟨_,_,cells,hb,hs,hn,hle,hrow⟩:=h.real ho hp hv
      obtain⟨hlen,hrow2⟩:=hrow i hi
      rw[hie]at hlen
      have hbound:∀ k,k<cs.length->i*size+k<cells.size:=fun k hk=>by
       rw[hn]
       have:(i+1)*size<=p.cap*size:=Nat.mul_le_mul_right _ (by omega)
       rw[Nat.add_mul]at this;omega
      have:=Y4 hT ht (P:=P) (G:=G) (w:=w) p.block (i*p.size) cs (fun k=>cells.getD (i*size+k) default) j
       (fun k hk=>by
        rw[cell_of_row w _ _ cells elem _ hb,hs]
        have:=hbound k hk
        simp[this]) (fun k hk=>by
        have h3:=hrow2 k (by rw[hie];exact hk) (hbound k hk)
        have:=hbound k hk
        simp only[hie]at h3
        simpa[this]using h3) ha
      obtain⟨u,hu,hr⟩:=this
      exact⟨u,by simp only[asAddr,Sem.run_bind,Sem.run_pure,Result.andThen_ok,hu],hr⟩
   | _=>simp[ho]at ha
 | rp cs a val hs himm hrep =>
  simp only[V1]at ha
  cases ht:T t with
  | none=>simp[ht]at ha
  | some ti =>
   simp only[ht]at ha
   obtain⟨b,o,s⟩:=a
   simp at hs;subst hs
   obtain⟨u,hu,hr⟩:=Y4 hT ht (P:=P) (G:=G) (w:=w) b o cs val 0 (fun k hk=>h.cell (himm k hk)) hrep ha
   rw[Nat.add_zero]at hu
   exact⟨u,by simp only[asAddr,Sem.run_bind,Sem.run_pure,Result.andThen_ok,hu],hr⟩
 | _=>simp[V1]at ha
def kL0(T:Tab)(s:AS):ResultVar->Option AV
 | .tmp t=>some (s.get t)
 | .cell a t=>V1 T s.st t (s.get a)
def eI0(T:Tab)(s:AS):List ResultVar->Option (List AV)
 | []=>some []
 | r::rs=>match kL0 T s r,eI0 T s rs with
  | some v,some l=>some (v::l)
  | _,_=>none
def D0(T:Tab)(fn:Func)(s:AS):Option AV :=
 match eI0 T s fn.results.toList with
 | some [v]=>some v
 | some l=>some (.tup l)
 | none=>none
def qc0(tmps:Array Value):ResultVar->Sem Value
 | .tmp t=>pure (tmps.getD t undef)
 | .cell a t=>do loadVar t (<- asAddr (tmps.getD a undef))
theorem oT0(fn:Func)(tmps:Array Value):results fn tmps=(do
  let vs<-fn.results.mapM (qc0 tmps)
  pure (if h:vs.size=1 then vs[0]else .tuple vs)):=rfl
theorem os0{P:Program}{T:Tab}(hT:C2 P T){G:j4}{s:AS}{a:Act}{w:World}(h:aG0 G s a w):∀ {rs:List ResultVar} {l:List AV},eI0 T s rs=some l ->
  ∃ vs:List Value,(rs.mapM (qc0 a.tmps):Sem (List Value)).run P w=.ok vs w/\B7 G l vs
 | [],l,ha=>by simp[eI0]at ha;subst ha;exact⟨[],by simp,.nil G⟩
 | r::rs,l,ha=>by
  unfold eI0 at ha
  split at ha
  ·rename_i v l' h1 h2
   cases ha
   obtain⟨vs,hvs,hr⟩:=os0 hT h h2
   have:∃ y,(qc0 a.tmps r).run P w=.ok y w/\Rep G v y:=by
    cases r with
    | tmp t=>simp only[kL0,Option.some.injEq]at h1;subst h1;exact⟨_,rfl,h.tmps t⟩
    | cell x t=>exact qI0 hT h.rel (h.tmps x) h1
   obtain⟨y,hy,hry⟩:=this
   refine⟨y::vs,?_,.cons hry hr⟩
   simp only[List.mapM_cons,Sem.run_bind,hy,Result.andThen_ok,hvs,Sem.run_pure]
  ·cases ha
theorem dw0{P:Program}{T:Tab}(hT:C2 P T){G:j4}{s:AS}{a:Act}{w:World}(h:aG0 G s a w){fn:Func}{v:AV}(ha:D0 T fn s=some v) :
  ∃ y,(results fn a.tmps).run P w=.ok y w/\Rep G v y:=by
 unfold D0 at ha
 have key:∀ l,eI0 T s fn.results.toList=some l->∃ vs:List Value,(results fn a.tmps).run P w=.ok (if h:vs.length=1 then vs[0]else .tuple vs.toArray) w/\B7 G l vs:=fun l hl=>by
  obtain⟨vs,hvs,hr⟩:=os0 (P:=P) hT h hl
  refine⟨vs,?_,hr⟩
  rw[oT0,Array.mapM_eq_mapM_toList]
  simp only[Sem.run_bind,Sem.run_map,hvs,Result.andThen_ok,Sem.run_pure]
  congr 1
 split at ha
 ·rename_i v' hl
  cases ha
  obtain⟨vs,h1,h2⟩:=key _ hl
  obtain⟨y,ys,rfl,h3,h4⟩:=h2.cons_inv
  rw[h4.nil_inv]at h1
  exact⟨y,by simpa using h1,h3⟩
 ·rename_i l hne hl
  cases ha
  obtain⟨vs,h1,h2⟩:=key _ hl
  have:vs.length≠1:=fun e=>by
   rw[h2.1]at e
   obtain⟨x,rfl⟩:=List.length_eq_one_iff.1 e
   exact hne x rfl
  rw[dif_neg this]at h1
  exact⟨_,h1,.tup _ _ h2.1 h2.2⟩
 ·cases ha
theorem bp0.of_body{P:Program}{T:Tab}(hT:C2 P T){f:FuncId}{fn:Func}{c:Code}{args:List AV}{σ:c9}{R:AV->c9->Prop}(hf:P.funcs[f]?=some fn)(hb:fn.body=some c)(hn:args.length<=fn.ntmps)
  (h:AWp P c (fun e s'=>(e=.normal\/e=.ret)/\∃ v,D0 T fn s'=some v/\R v s'.st) (AS.enter fn.ntmps args σ)):bp0 P f args σ R:=by
 intro G vs w ha hr
 refine calls_of_wp hf hb (wp_mono (h G _ w (aG0.enter ha hr fn.ntmps hn)) ?_)
 rintro e a' w' ⟨s',G',b1,b3,hex,v,hv,hR⟩
 obtain⟨y,hy,hry⟩:=dw0 (P:=P) hT b3 hv
 rcases hex with rfl | rfl
 ·exact⟨b3.defers,y,hy,y,v,s'.st,G',rfl,b1,hry,b3.rel,hR⟩
 ·exact⟨b3.defers,y,hy,y,v,s'.st,G',rfl,b1,hry,b3.rel,hR⟩
section
variable {P:Program} {ops:Array Oper} {n0:Nat} {Q:AS->Prop} {s:AS}
end
inductive EX where
 | nor
 | exi (id:Nat)
 | ret
def EX.toExit:EX->Exit
 | .nor=>.normal
 | .exi id=>.exit id
 | .ret=>.ret
def nU0(T:Tab)(cl:FuncId->List AV->c9->Option (AV×c9))(ops:Array Oper)(n0:Nat):List Oper->Nat->AS->Option AS
 | [],_,s=>some s
 | o::rest,i,s =>
  match E3 ops s o,S8 s.n o.dst with
  | some false,true=>nU0 T cl ops n0 rest (i+1) (s.put o.dst (.sc undef))
  | some true,true =>
   match o.op with
   | .call { callee:=.value fo,args:=args,argTypes:=_ } =>
    match s.eval fo with
    | .fn (.func f) first cap=>match cl f (first++args.toList.map s.eval++cap) s.st with
     | some (v,σ')=>nU0 T cl ops n0 rest (i+1) ({ s with st:=σ' }.put o.dst v)
     | none=>none
    | _=>none
   | op=>match aop2 T s.eval s.st (n0+i) op with
    | some (v,σ')=>if σ'.next=s.st.next then nU0 T cl ops n0 rest (i+1) ({ s with st:=σ' }.put o.dst v)else none
    | none=>none
  | _,_=>none
abbrev qO0:=FuncId->Option (List AV->c9->Option (AV×c9))
def na0(T:Tab)(F:FuncId->Option Func)(K:qO0)(ex:Code->AS->Option (EX×AS))(f:FuncId)(args:List AV)(σ:c9):Option (AV×c9) :=
 match (match K f with | some g=>g args σ | none=>none)with
 | some r=>some r
 | none =>
 match F f with
 | some fn=>match fn.body with
  | some c=>if args.length<=fn.ntmps/\(fn.name== "runtime.NumGoroutine")=false then
    match ex c (AS.enter fn.ntmps args σ)with
    | some (.nor,s') | some (.ret,s')=>match D0 T fn s' with
     | some v=>some (v,s'.st)
     | none=>none
    | _=>none
   else none
  | none=>none
 | none=>none
section
variable {P:Program} {T:Tab}
end
end Go.Ab
namespace Go.Ab
open Go
variable [B0]
def Z2(σ σ':c9):Prop:=σ'.low<=σ.low/\∀ i,i<σ'.low->σ'.objs i=σ.objs i
theorem Z2.refl(σ:c9):Z2 σ σ:=⟨Nat.le_refl _,fun _ _=>rfl⟩
theorem Z2.trans{a b c:c9}(h:Z2 a b)(k:Z2 b c):Z2 a c:=⟨Nat.le_trans k.1 h.1,fun i hi=>(k.2 i hi).trans (h.2 i (Nat.lt_of_lt_of_le hi k.1))⟩
theorem Z2.set(σ:c9)(id:Nat)(o:l7):Z2 σ (σ.set id o):=by
 refine⟨Nat.min_le_left _ _,fun i hi=>?_⟩
 have:i<id:=Nat.lt_of_lt_of_le hi (Nat.min_le_right _ _)
 rw[c9.objs_set,if_neg (by omega)]
theorem Z2.del(σ:c9)(id:Nat):Z2 σ (σ.del id):=by
 refine⟨Nat.min_le_left _ _,fun i hi=>?_⟩
 have:i<id:=Nat.lt_of_lt_of_le hi (Nat.min_le_right _ _)
 rw[c9.objs_del,if_neg (by omega)]
theorem jQ0(σ:c9)(s:AV):(w9 σ s).next=σ.next/\Z2 σ (w9 σ s):=by
 unfold w9
 split
 ·split
  ·split
   ·exact⟨rfl,.set _ _ _⟩
   ·exact⟨rfl,.refl _⟩
  ·exact⟨rfl,.refl _⟩
 ·exact⟨rfl,.refl _⟩
theorem lc0{T:Tab}{σ σ':c9}{id:Nat}{sT xT:TypeId}{s x v:AV}(h:E9 T σ id sT xT s x=some (v,σ')):σ'.next=σ.next/\Z2 σ σ':=by
 unfold E9 at h
 split at h
 ·unfold df0 at h
  split at h
  ·split at h
   ·cases h;exact⟨rfl,.set _ _ _⟩
   ·cases h
  ·cases h
 ·obtain⟨e1,e2⟩:=jQ0 σ s
  unfold N9 at h
  split at h
  ·split at h
   ·split at h
    ·split at h
     ·simp only[Option.some.injEq,Prod.mk.injEq]at h
      obtain⟨_,rfl⟩:=h
      refine⟨?_,?_⟩
      ·split<;>exact e1
      ·split
       ·exact e2.trans (Z2.trans (.del _ _) (.set _ _ _))
       ·exact e2.trans (.set _ _ _)
     ·cases h
    ·cases h
   ·cases h
  ·cases h
def isE:Op->Bool
 | .store .. | .mapUpdate .. | .insert .. | .mapEntry .. | .entryStore ..=>true
 | .call { callee:=.builtin .append,.. }=>true
 | _=>false
theorem kb0{T:Tab}{ρ:Operand->AV}{σ σ':c9}{id:Nat}{op:Op}{v:AV}(h:aop T ρ σ id op=some (v,σ')) :
  σ'.next=σ.next/\Z2 σ σ'/\(isE op=false->σ'=σ\/∃ o,σ'=σ.set id o):=by
 have same:σ'=σ->σ'.next=σ.next/\Z2 σ σ'/\(isE op=false->σ'=σ\/∃ o,σ'=σ.set id o):=fun e=>by subst e;exact⟨rfl,.refl _,fun _=>.inl rfl⟩
 have new:(∃ o,σ'=σ.set id o)->σ'.next=σ.next/\Z2 σ σ'/\(isE op=false->σ'=σ\/∃ o,σ'=σ.set id o):=fun ⟨o,e⟩=>by subst e;exact⟨rfl,.set _ _ _,fun _=>.inr ⟨o,rfl⟩⟩
 cases op with
 | move x=>cases h;exact same rfl
 | assign x=>cases h;exact same rfl
 | pick c a b =>
  simp only[aop]at h
  split at h
  ·cases h;exact same rfl
  ·cases h
 | build t ps =>
  simp only[aop]at h
  split at h
  ·cases h;exact same rfl
  ·cases h
 | load t x =>
  simp only[aop]at h
  split at h
  ·cases h;exact same rfl
  ·cases h
 | binOp b t x y yt =>
  simp only[aop]at h
  split at h
  ·cases h;exact same rfl
  ·cases h
 | unOp b t x =>
  simp only[aop]at h
  split at h
  ·cases h;exact same rfl
  ·cases h
 | convert s d x =>
  simp only[aop]at h
  split at h
  ·cases h;exact same rfl
  ·cases h
 | slice t x lo hi mx =>
  simp only[aop]at h
  split at h
  ·cases h;exact same rfl
  ·cases h
 | fieldAddr t x f =>
  simp only[aop]at h
  split at h
  ·cases h;exact same rfl
  ·cases h
 | field t x f =>
  simp only[aop]at h
  split at h
  ·cases h;exact same rfl
  ·cases h
 | indexAddr t x i =>
  simp only[aop]at h
  split at h
  ·cases h;exact same rfl
  ·cases h
 | index t x i =>
  simp only[aop]at h
  split at h
  ·cases h;exact same rfl
  ·cases h
 | lookup t x i ok =>
  simp only[aop]at h
  split at h
  ·cases h;exact same rfl
  ·cases h
 | extract x i =>
  simp only[aop]at h
  split at h
  ·cases h;exact same rfl
  ·cases h
 | alloc t =>
  simp only[aop,fn0]at h
  split at h
  ·cases h;exact new ⟨_,rfl⟩
  ·cases h
 | box t x =>
  simp only[aop,tG0]at h
  split at h
  ·cases h;exact new ⟨_,rfl⟩
  ·cases h
 | buildSlice t len ps =>
  simp only[aop,I0]at h
  split at h
  ·split at h
   ·split at h
    ·split at h
     ·cases h;exact new ⟨_,rfl⟩
     ·cases h
    ·cases h
   ·cases h
  ·cases h
 | nilCheck x =>
  simp only[aop]at h
  split at h
  ·cases h;exact same rfl
  ·cases h;exact same rfl
  ·cases h;exact same rfl
  ·cases h
 | makeFunc f a c=>cases h;exact same rfl
 | makeMap t r =>
  cases r with
  | some r=>simp[aop]at h
  | none=>cases h;exact new ⟨_,rfl⟩
 | store t a x =>
  simp only[aop]at h
  split at h
  ·rename_i σ1 hs
   cases h
   refine⟨?_,?_,fun e=>by simp[isE]at e⟩
   all_goals
    unfold V4 at hs
    split at hs
    ·split at hs
     ·split at hs
      ·split at hs
       ·cases hs;first | rfl | exact .set _ _ _
       ·cases hs
      ·cases hs
     ·cases hs
    ·cases hs
  ·cases h
 | mapEntry t m k =>
  simp only[aop]at h
  refine⟨?_,?_,fun e=>by simp[isE]at e⟩
  all_goals
   unfold O2 at h
   split at h
   ·split at h
    ·split at h
     ·split at h
      ·split at h
       ·cases h;first | rfl | exact .set _ _ _
       ·split at h
        ·split at h
         ·cases h;first | rfl | exact .refl _
         ·cases h;first | rfl | exact .set _ _ _
        ·cases h
      ·cases h
     ·cases h
    ·cases h
   ·cases h
 | entryStore t m s x =>
  simp only[aop]at h
  split at h
  ·rename_i σ1 hs
   cases h
   refine⟨?_,?_,fun e=>by simp[isE]at e⟩
   all_goals
    unfold H7 at hs
    split at hs
    ·split at hs
     ·split at hs
      ·cases hs;first | rfl | exact .set _ _ _
      ·cases hs
     ·cases hs
    ·cases hs
  ·cases h
 | mapUpdate t m k x =>
  simp only[aop]at h
  split at h
  ·rename_i σ1 hs
   cases h
   refine⟨?_,?_,fun e=>by simp[isE]at e⟩
   all_goals
    unfold C6 at hs
    split at hs
    ·split at hs
     ·split at hs
      ·split at hs
       ·cases hs;first | rfl | exact .set _ _ _
       ·split at hs
        ·cases hs;first | rfl | exact .set _ _ _
        ·cases hs
      ·cases hs
     ·cases hs
    ·cases hs
  ·cases h
 | insert t m k x =>
  simp only[aop]at h
  split at h
  ·rename_i σ1 hs
   cases h
   refine⟨?_,?_,fun e=>by simp[isE]at e⟩
   all_goals
    unfold C6 at hs
    split at hs
    ·split at hs
     ·split at hs
      ·split at hs
       ·cases hs;first | rfl | exact .set _ _ _
       ·split at hs
        ·cases hs;first | rfl | exact .set _ _ _
        ·cases hs
      ·cases hs
     ·cases hs
    ·cases hs
  ·cases h
 | call c =>
  obtain⟨callee,args,ts⟩:=c
  cases callee with
  | value f=>simp[aop]at h
  | invoke r m=>simp[aop]at h
  | builtin b =>
   simp only[aop]at h
   unfold F6 at h
   split at h
   ·split at h
    ·cases h;exact same rfl
    ·cases h
   ·have:=lc0 h
    exact⟨this.1,this.2,fun e=>by simp[isE]at e⟩
   ·split at h
    ·cases h;exact same rfl
    ·cases h
   ·split at h
    ·cases h;exact same rfl
    ·cases h
   ·split at h
    ·cases h;exact same rfl
    ·cases h
   ·cases h
 | _=>simp[aop]at h
section
variable {T:Tab} {F:FuncId->Option Func}
end
end Go.Ab
namespace Go.Ab
open Go
variable [B0]
def fold{L V:Type}(p:Nat->Bool):List (L->Option V)->Nat->(L->V)->(L->V)
 | [],_,f=>f
 | u::us,i,f=>fold p us (i+1) (fun l=>cond (p i) ((u l).getD (f l)) (f l))
theorem M9{L V:Type}{p q:Nat->Bool}(l:L):∀ (us:List (L->Option V)) (i:Nat) (f g:L->V),f l=g l->(∀ (j:Nat) u,us[j]?=some u->p (i+j)≠q (i+j)->u l=none) ->
  fold p us i f l=fold q us i g l
 | [],_,f,g,h,_=>h
 | u::us,i,f,g,h,hu=>by
  simp only[fold]
  refine M9 l us (i+1) _ _ ?_ (fun j u' h1 h2=>hu (j+1) u' (by simpa using h1) (by rw[show i+(j+1)=i+1+j from by omega];exact h2))
  by_cases e:p i=q i
  ·rw[e,h]
  ·have:=hu 0 u rfl (by simpa using e)
   rw[this,h]
   cases p i<;>cases q i<;>rfl
theorem fold_congr{L V:Type}{p q:Nat->Bool}:∀ (us:List (L->Option V)) (i:Nat) (f:L->V),(∀ j,i<=j->p j=q j)->fold p us i f=fold q us i f
 | [],_,_,_=>rfl
 | u::us,i,f,h=>by
  simp only[fold,h i (Nat.le_refl _)]
  exact fold_congr us (i+1) _ (fun j hj=>h j (by omega))
theorem aB0{L V:Type}{p:Nat->Bool}(l:L):∀ (us:List (L->Option V)) (i:Nat) (f:L->V) (v:V),(∀ (j:Nat) u,us[j]?=some u->p (i+j)=true->u l=none)->f l=v->fold p us i f l=v
 | [],_,f,v,_,h=>h
 | u::us,i,f,v,hu,h=>by
  simp only[fold]
  refine aB0 l us (i+1) _ v (fun j u' h1 h2=>hu (j+1) u' (by simpa using h1) (by rw[show i+(j+1)=i+1+j from by omega];exact h2)) ?_
  cases e:p i with
  | true=>rw[hu 0 u rfl (by simpa using e),h];rfl
  | false=>exact h
theorem gf0{L V:Type}{p:Nat->Bool}(l:L){u0:L->Option V}:∀ (us:List (L->Option V)) (i k:Nat) (f:L->V),us[k]?=some u0->p (i+k)=false ->
  (∀ (j:Nat) u,us[j]?=some u->k<j->p (i+j)=true->u0 l≠none->u l=none) ->
  fold (fun j=>j==i+k||p j) us i f l=(u0 l).getD (fold p us i f l)
 | [],i,k,f,h,_,_=>by simp at h
 | u::us,i,0,f,h,hp,hu=>by
  simp only[List.getElem?_cons_zero,Option.some.injEq]at h
  subst h
  simp only[Nat.add_zero]at hp
  have hne:∀ j,i+1<=j->(j==i+0||p j)=p j:=fun j hj=>by
   have:(j==i+0)=false:=by simp;omega
   rw[this];rfl
  have hi:(i==i+0||p i)=true:=by simp
  simp only[fold]
  rw[fold_congr us (i+1) _ hne,hi,hp]
  simp only[cond_true,cond_false]
  cases hul:u l with
  | none =>
   simp only[Option.getD_none]
   exact M9 l us (i+1) _ _ (by simp[hul]) (fun j u' _ h2=>absurd rfl h2)
  | some v =>
   simp only[Option.getD_some]
   exact aB0 l us (i+1) _ v (fun j u' h1 h2=>hu (j+1) u' (by simpa using h1) (by omega) (by rw[show i+(j+1)=i+1+j from by omega];exact h2) (by simp[hul])) (by simp[hul])
 | u::us,i,k+1,f,h,hp,hu=>by
  have e:(i==i+(k+1)||p i)=p i:=by
   have:(i==i+(k+1))=false:=by simp
   rw[this];rfl
  simp only[fold]
  rw[e]
  have:=gf0 (p:=p) l us (i+1) k (fun l=>cond (p i) ((u l).getD (f l)) (f l)) (by simpa using h) (by rw[show i+1+k=i+(k+1)from by omega];exact hp)
   (fun j u' h1 h2 h3 h4=>hu (j+1) u' (by simpa using h1) (by omega) (by rw[show i+(j+1)=i+1+j from by omega];exact h3) h4)
  rw[show i+1+k=i+(k+1)from by omega]at this
  exact this
theorem fm0(ob:Nat->Option l7):∀ nx,(∀ i,nx<=i->ob i=none)->∃ σ:c9,σ.next=nx/\∀ i,σ.objs i=ob i:=by
 have key:∀ n (m:Nat),∃ σ:c9,σ.next=m/\∀ i,σ.objs i=if i<n then ob i else none:=by
  intro n m
  induction n with
  | zero=>exact⟨{ next:=m,tr:=.leaf },rfl,fun i=>by simp[c9.objs,Tr.get_leaf]⟩
  | succ n ih =>
   obtain⟨σ,h1,h2⟩:=ih
   cases hn:ob n with
   | some o =>
    refine⟨σ.set n o,h1,fun i=>?_⟩
    rw[c9.objs_set,h2]
    by_cases e:i=n
    ·subst e;simp[hn]
    ·rw[if_neg e]
     by_cases e2:i<n
     ·rw[if_pos e2,if_pos (by omega)]
     ·rw[if_neg e2,if_neg (by omega)]
   | none =>
    refine⟨σ,h1,fun i=>?_⟩
    rw[h2]
    by_cases e:i=n
    ·subst e;simp[hn]
    ·by_cases e2:i<n
     ·rw[if_pos e2,if_pos (by omega)]
     ·rw[if_neg e2,if_neg (by omega)]
 intro nx h
 obtain⟨σ,h1,h2⟩:=key nx nx
 refine⟨σ,h1,fun i=>?_⟩
 rw[h2]
 split
 ·rfl
 ·rw[h i (by omega)]
theorem Rel.objs_lt{G:j4}{σ:c9}{w:World}(h:Rel G σ w){i:Nat}{o:l7}(ho:σ.objs i=some o):i<σ.next:=by
 obtain⟨p,hp,_⟩:=h.objs i o ho
 exact h.id_lt hp
theorem Rel.frame{G G':j4}{σ σv σv' σ':c9}{w w':World}(hfull:Rel G σ w)(hview:∀ id o,σv.objs id=some o->σ.objs id=some o)(hrel:Rel G' σv' w')(hfr:Fr G σv w G' σv' w')(hle:G.le G')
  (hnext:∀ id,σ'.next<=id->G'.pl id=none) (hσ:∀ id o,σ'.objs id=some o->σv'.objs id=some o\/(σ.objs id=some o/\σv.objs id=none)):Rel G' σ' w':=by
 have hs:=hfr.size
 have notlive:∀ id o p,σ.objs id=some o->σv.objs id=none->G.pl id=some p->p.virt=false->∀ id0 o0 p0,σv.objs id0=some o0->G.pl id0=some p0->p0.virt=false->p0.block≠p.block :=
  fun id o p h1 h2 h3 h4 id0 o0 p0 g1 g2 g3 g4=>by
   have:=hfull.sep id0 id o0 o p0 p (hview _ _ g1) h1 g2 h3 g3 h4 g4
   rw[this,h2]at g1;cases g1
 refine⟨hrel.os,hrel.tape,hrel.output,hrel.size,hrel.imm,hnext,fun id o ho=>?_,fun i j oi oj pi pj h1 h2 h3 h4 v1 v2 h5=>?_,hrel.glob⟩
 ·rcases hσ id o ho with h1 | ⟨h1,h2⟩
  ·exact hrel.objs id o h1
  ·obtain⟨p,hp,hl⟩:=hfull.objs id o h1
   refine⟨p,hle.pl _ _ hp,?_⟩
   rcases hl with hl | ⟨hv,hi1,hi2,hi3⟩
   ·exact .inl hl
   ·refine .inr ⟨hv,?_,by rw[hle.w0];exact hi2,?_⟩
    ·cases hb:G'.imm p.block with
     | none=>rfl
     | some x =>
      rcases hfr.imm _ _ hb with g | g | ⟨id0,o0,p0,g1,g2,g3,g4⟩
      ·rw[hi1]at g;cases g
      ·have:=hfull.obj_lt h1 hp hv;omega
      ·exact absurd g4 (notlive id o p h1 h2 hp hv id0 o0 p0 g1 g2 g3)
    ·rw[hfr.same p.block (hfull.obj_lt h1 hp hv) (fun id0 o0 p0 g1 g2 g3=>notlive id o p h1 h2 hp hv id0 o0 p0 g1 g2 g3)]
     exact hi3.mono hle
 ·have plG:∀ k x,σ.objs k=some x->∀ q,G'.pl k=some q->G.pl k=some q:=fun k x hx q hq=>by
   obtain⟨q',hq',_⟩:=hfull.objs k x hx
   have:=hle.pl _ _ hq'
   rw[hq]at this;cases this
   exact hq'
  have T4:∀ i j oi oj pi pj,σv'.objs i=some oi->σ.objs j=some oj->σv.objs j=none->G'.pl i=some pi->G'.pl j=some pj->pi.virt=false->pj.virt=false->pi.block≠pj.block:=by
   intro i j oi oj pi pj a1 a2 a3 a4 a5 a6 a7 a8
   have b5:=plG j oj a2 pj a5
   have hlt:=hfull.obj_lt a2 b5 a7
   obtain⟨id0,o0,p0,g1,g2,g3,g4⟩:=hfr.live i oi pi a1 a4 a6 (by omega)
   exact notlive j oj pj a2 a3 b5 a7 id0 o0 p0 g1 g2 g3 (by omega)
  rcases hσ i oi h1 with a | ⟨a,a'⟩<;>rcases hσ j oj h2 with b | ⟨b,b'⟩
  ·exact hrel.sep i j oi oj pi pj a b h3 h4 v1 v2 h5
  ·exact absurd h5 (T4 i j oi oj pi pj a b b' h3 h4 v1 v2)
  ·exact absurd h5.symm (T4 j i oj oi pj pi b a a' h4 h3 v2 v1)
  ·exact hfull.sep i j oi oj pi pj a b (plG i oi a pi h3) (plG j oj b pj h4) v1 v2 h5
theorem Fr.frame{G G':j4}{σ σv σv' σ':c9}{w w':World}(hfull:Rel G σ w)(hview:∀ id o,σv.objs id=some o->σ.objs id=some o)(hfr:Fr G σv w G' σv' w')(hle:G.le G')
  (hσ:∀ id o,σ'.objs id=some o->σv'.objs id=some o\/(σ.objs id=some o/\σv.objs id=none)):Fr G σ w G' σ' w':=by
 refine⟨hfr.size,fun b hb hn=>hfr.same b hb (fun id o p h1 h2 h3=>hn id o p (hview _ _ h1) h2 h3),fun id o p h1 h2 h3 h4=>?_,fun b o hb=>?_,hfr.drawn⟩
 ·rcases hσ id o h1 with a | ⟨a,_⟩
  ·obtain⟨id0,o0,p0,g1,g2,g3,g4⟩:=hfr.live id o p a h2 h3 h4
   exact⟨id0,o0,p0,hview _ _ g1,g2,g3,g4⟩
  ·obtain⟨q,hq,_⟩:=hfull.objs id o a
   have:=hle.pl _ _ hq
   rw[h2]at this;cases this
   exact⟨id,o,p,a,hq,h3,rfl⟩
 ·rcases hfr.imm b o hb with g | g | ⟨id0,o0,p0,g1,g2,g3,g4⟩
  ·exact .inl g
  ·exact .inr (.inl g)
  ·exact .inr (.inr ⟨id0,o0,p0,hview _ _ g1,g2,g3,g4⟩)
end Go.Ab
namespace Go.Ab
open Go
variable [B0]
def R4(tm:Nat->AV):Operand->AV
 | .tmp t=>tm t
 | .const v=>.ofValue v
 | .global g=>.sc (.pointer (some ⟨g,0,none⟩))
 | .func f=>.fn (.func f) [] []
theorem AS.eval_eq(s:AS)(x:Operand):s.eval x=R4 s.get x:=by cases x<;>rfl
structure uf0(G:j4)(n:Nat)(tm:Nat->AV)(σ:c9)(a:Act)(w:World):Prop where
 defers:a.defers=[]
 size:a.tmps.size=n
 tmps:∀ t,Rep G (tm t) (a.tmps.getD t undef)
 rel:Rel G σ w
theorem uf0.eval{G:j4}{n:Nat}{tm:Nat->AV}{σ:c9}{a:Act}{w:World}(h:uf0 G n tm σ a w)(x:Operand):Rep G (R4 tm x) (a.eval x):=by
 cases x with
 | tmp t=>exact h.tmps t
 | const v=>exact Rep.ofValue G v
 | global g=>exact .sc _
 | func f=>exact .fn _ [] [] [] [] rfl rfl (fun i h=>by simp at h) (fun i h=>by simp at h)
def mn0(d:Option Tmp)(v:AV):Nat->Option AV:=fun t=>if d=some t then some v else none
theorem uf0.put{G G':j4}{n:Nat}{tm:Nat->AV}{σ σ':c9}{a:Act}{w w':World}(h:uf0 G n tm σ a w)(hG:G.le G')(hr:Rel G' σ' w'){v:AV}{u:Value}(hv:Rep G' v u){d:Option Tmp}(hd:S8 n d=true) :
  uf0 G' n (fun t=>(mn0 d v t).getD (tm t)) σ' (a.put d u) w':=by
 cases d with
 | none=>exact⟨h.defers,h.size,fun t=>(h.tmps t).mono hG,hr⟩
 | some d =>
  refine⟨h.defers,by simp[Act.put,h.size],fun t=>?_,hr⟩
  simp only[S8,decide_eq_true_eq]at hd
  simp only[Act.put,mn0]
  by_cases e:d=t
  ·subst e
   simp[h.size,hd];exact hv
  ·have:(a.tmps.setIfInBounds d u).getD t undef=a.tmps.getD t undef:=by
    simp[Array.getElem?_setIfInBounds,e]
   rw[this]
   simp[e];simpa using(h.tmps t).mono hG
def af0(ops:Array Oper)(n:Nat)(tm:Nat->AV)(o:Oper):Option Bool :=
 match o.guard with
 | none=>some true
 | some (j,want)=>match (ops[j]?).bind (·.dst)with
  | some d=>if d<n then
    match tm d with
    | .sc (.bool b)=>some (b==want)
    | .sc (.tuple _)=>some false
    | _=>none
   else none
  | none=>none
theorem X0{ops:Array Oper}{n:Nat}{tm tm':Nat->AV}{o:Oper}(h:∀ t∈o.looksAt ops,tm t=tm' t):af0 ops n tm o=af0 ops n tm' o:=by
 unfold af0
 cases hg:o.guard with
 | none=>rfl
 | some q =>
  obtain⟨j,want⟩:=q
  simp only[]
  cases hd:(ops[j]?).bind (·.dst)with
  | none=>rfl
  | some d =>
   have:=h d (by unfold Oper.looksAt;rw[hg];simp[hd])
   simp only[this]
theorem bS0{ops:Array Oper}{n:Nat}{tm:Nat->AV}{o:Oper}{b:Bool}{G:j4}{σ:c9}{a:Act}{w:World}(h:uf0 G n tm σ a w)(ha:af0 ops n tm o=some b):Region.wanted o (yielded ops a.tmps)=b:=by
 unfold af0 at ha
 unfold Region.wanted
 split at ha
 ·rename_i hg;cases ha;simp[hg]
 ·rename_i j want hg
  simp only[hg]
  split at ha
  ·rename_i d hd
   split at ha
   ·rename_i hlt
    have ht:=h.tmps d
    have O3:a.tmps[d]?=some (a.tmps.getD d undef):=by simp[h.size,hlt]
    simp only[yielded,hd,Option.bind_some,O3]
    split at ha
    ·rename_i b' hb
     cases ha
     rw[hb]at ht
     generalize a.tmps.getD d undef=u at ht
     cases ht
     cases b'<;>cases want<;>rfl
    ·rename_i hb
     cases ha
     rw[hb]at ht
     generalize a.tmps.getD d undef=u at ht
     cases ht
     cases want<;>rfl
    ·cases ha
   ·cases ha
  ·cases ha
theorem dI0{ops:Array Oper}{tm tm':Nat->AV}{o:Oper}(h:∀ t∈o.looksAt ops,tm t=tm' t):∀ x∈o.op.operands,R4 tm x=R4 tm' x:=by
 intro x hx
 cases x with
 | tmp t=>exact h t (by unfold Oper.looksAt;exact List.mem_append_left _ (List.mem_filterMap.2 ⟨.tmp t,by simpa using hx,rfl⟩))
 | _=>rfl
theorem bk0{ρ ρ':Operand->AV}{l:Array Operand}(h:∀ x∈l,ρ x=ρ' x):l.toList.map ρ=l.toList.map ρ':=List.map_congr_left fun x hx=>h x (by simpa using hx)
theorem qk0{T:Tab}{ρ ρ':Operand->AV}{σ:c9}{id:Nat}{op:Op}(h:∀ x∈op.operands,ρ x=ρ' x):aop T ρ σ id op=aop T ρ' σ id op:=by
 have oZ0:∀ ps:Array (Nat×Operand),(∀ x∈(ps.toList.map (·.2)),ρ x=ρ' x)->(ps.toList.map fun (p:Nat×Operand)=>(p.1,ρ p.2))=(ps.toList.map fun (p:Nat×Operand)=>(p.1,ρ' p.2)):=fun ps hp =>
  List.map_congr_left fun p hm=>by rw[hp p.2 (List.mem_map.2 ⟨p,hm,rfl⟩)]
 cases op with
 | move x=>simp only[aop];rw[h x (by simp[Op.operands])]
 | assign x=>simp only[aop];rw[h x (by simp[Op.operands])]
 | pick c a b=>simp only[aop];rw[h c (by simp[Op.operands]),h a (by simp[Op.operands]),h b (by simp[Op.operands])]
 | alloc t=>rfl
 | box t x=>simp only[aop];rw[h x (by simp[Op.operands])]
 | build t ps=>simp only[aop];rw[oZ0 ps (fun x hx=>h x (by simpa[Op.operands]using hx))]
 | buildSlice t len ps=>simp only[aop];rw[oZ0 ps (fun x hx=>h x (by simpa[Op.operands]using hx))]
 | load t x=>simp only[aop];rw[h x (by simp[Op.operands])]
 | store t a x=>simp only[aop];rw[h a (by simp[Op.operands]),h x (by simp[Op.operands])]
 | nilCheck x=>simp only[aop];rw[h x (by simp[Op.operands])]
 | binOp b t x y yt=>simp only[aop];rw[h x (by simp[Op.operands]),h y (by simp[Op.operands])]
 | unOp b t x=>simp only[aop];rw[h x (by simp[Op.operands])]
 | convert s d x=>simp only[aop];rw[h x (by simp[Op.operands])]
 | makeFunc f a c=>simp only[aop];rw[bk0 (l:=a) (fun x hx=>h x (by simp[Op.operands,hx])),bk0 (l:=c) (fun x hx=>h x (by simp[Op.operands,hx]))]
 | makeMap t r=>cases r<;>rfl
 | slice t x lo hi mx =>
  simp only[aop]
  rw[h x (by simp[Op.operands])]
  have e:∀ o:Option Operand,(∀ y,o=some y->ρ y=ρ' y)->o.map ρ=o.map ρ':=fun o ho=>by cases o with
   | none=>rfl
   | some y=>simp[ho y rfl]
  rw[e lo (fun y hy=>h y (by simp[Op.operands,hy])),e hi (fun y hy=>h y (by simp[Op.operands,hy])),e mx (fun y hy=>h y (by simp[Op.operands,hy]))]
 | fieldAddr t x f=>simp only[aop];rw[h x (by simp[Op.operands])]
 | field t x f=>simp only[aop];rw[h x (by simp[Op.operands])]
 | indexAddr t x i=>simp only[aop];rw[h x (by simp[Op.operands]),h i (by simp[Op.operands])]
 | index t x i=>simp only[aop];rw[h x (by simp[Op.operands]),h i (by simp[Op.operands])]
 | lookup t x i ok=>simp only[aop];rw[h x (by simp[Op.operands]),h i (by simp[Op.operands])]
 | mapUpdate t m k x=>simp only[aop];rw[h m (by simp[Op.operands]),h k (by simp[Op.operands]),h x (by simp[Op.operands])]
 | insert t m k x=>simp only[aop];rw[h m (by simp[Op.operands]),h k (by simp[Op.operands]),h x (by simp[Op.operands])]
 | mapEntry t m k=>simp only[aop];rw[h m (by simp[Op.operands]),h k (by simp[Op.operands])]
 | entryStore t m s x=>simp only[aop];rw[h m (by simp[Op.operands]),h s (by simp[Op.operands]),h x (by simp[Op.operands])]
 | extract x i=>simp only[aop];rw[h x (by simp[Op.operands])]
 | call c =>
  obtain⟨callee,args,ts⟩:=c
  cases callee with
  | builtin b=>simp only[aop];rw[bk0 (l:=args) (fun x hx=>h x (by simp[Op.operands,Call.operands,hx]))]
  | value f=>rfl
  | invoke r m=>rfl
 | _=>rfl
def AV.ids0:AV->List Nat
 | .ms id _ _ _=>[id]
 | .mp id _ _=>[id]
 | .mm id=>[id]
 | .ss id _ _=>[id]
 | .xp id _ _=>[id]
 | _=>[]
def cf0(ρ:Operand->AV):Op->List Nat
 | .load _ x=>(ρ x).ids0
 | .store _ a _=>(ρ a).ids0
 | .lookup _ x _ _=>(ρ x).ids0
 | .mapUpdate _ m _ _=>(ρ m).ids0
 | .insert _ m _ _=>(ρ m).ids0
 | .mapEntry _ m _=>(ρ m).ids0
 | .entryStore _ m _ _=>(ρ m).ids0
 | .call { callee:=.builtin _,args:=args,.. }=>(args.toList.map fun x=>(ρ x).ids0).flatten
 | _=>[]
def cz0(σ:c9):List Nat->c9->c9
 | [],t=>t
 | i::is,t=>cz0 σ is (match σ.objs i with | some o=>t.set i o | none=>t)
def small(σ:c9)(ids:List Nat):c9:=cz0 σ ids { next:=σ.next,tr:=.leaf }
theorem fj0(σ:c9):∀ (is:List Nat) (t:c9) (k:Nat),(∀ o,t.objs k=some o->σ.objs k=some o)->(cz0 σ is t).objs k=if k∈is then σ.objs k else t.objs k
 | [],t,k,_=>by simp[cz0]
 | i::is,t,k,h=>by
  simp only[cz0]
  have h':∀ o,(match σ.objs i with | some o=>t.set i o | none=>t).objs k=some o->σ.objs k=some o:=fun o ho=>by
   cases hi:σ.objs i with
   | none=>rw[hi]at ho;exact h o ho
   | some x =>
    rw[hi]at ho
    simp only[c9.objs_set]at ho
    split at ho
    ·rename_i e;subst e;rw[hi];exact ho
    ·exact h o ho
  rw[fj0 σ is _ k h']
  by_cases e:k∈is
  ·simp[e]
  ·rw[if_neg e]
   by_cases e2:k=i
   ·subst e2
    rw[if_pos (by simp)]
    cases hi:σ.objs k with
    | none =>
     simp only
     cases ht:t.objs k with
     | none=>rfl
     | some o=>have:=h o ht;rw[hi]at this;cases this
    | some x=>simp[c9.objs_set]
   ·rw[if_neg (by simp[e,e2])]
    cases hi:σ.objs i with
    | none=>rfl
    | some x=>simp[c9.objs_set,e2]
theorem cP0(σ:c9)(ids:List Nat)(k:Nat):(small σ ids).objs k=if k∈ids then σ.objs k else none:=by
 unfold small
 rw[fj0 σ ids _ k (fun o ho=>by simp[c9.objs,Tr.get_leaf]at ho)]
 simp[c9.objs,Tr.get_leaf]
theorem fK0{T:Tab}{σ σ':c9}{m:Nat}{t:TypeId}{x k v:AV}(hs:O2 T σ t x k=some (v,σ')):O2 T { σ with next:=m } t x k=some (v,{ σ' with next:=m }):=by
 unfold O2 at hs ⊢
 have e:∀ k,({ σ with next:=m }:c9).objs k=σ.objs k:=fun _=>rfl
 split at hs
 ·rename_i h1 h2
  try simp only[h1,h2]
  split at hs
  ·rename_i h3
   try simp only[h3]
   split at hs
   ·simp only[e]
    split at hs
    ·rename_i h4
     try simp only[h4]
     split at hs
     ·rename_i h5;cases hs;rw[if_pos h5];rfl
     ·rename_i h5
      rw[if_neg h5]
      split at hs
      ·rename_i h6
       rw[if_pos h6]
       split at hs
       ·rename_i h7;cases hs;(try simp only[h7])
       ·rename_i h7;cases hs;(try simp only[h7]);rfl
      ·cases hs
    ·cases hs
   ·cases hs
  ·cases hs
 ·cases hs
theorem ea0{σ σ':c9}{m:Nat}{x k v:AV}(hs:H7 σ x k v=some σ'):H7 { σ with next:=m } x k v=some { σ' with next:=m }:=by
 unfold H7 at hs ⊢
 have e:∀ k,({ σ with next:=m }:c9).objs k=σ.objs k:=fun _=>rfl
 split at hs
 ·simp only[e]
  split at hs
  ·rename_i h4
   try simp only[h4]
   split at hs
   ·rename_i h5;cases hs;(try simp only[h5]);rfl
   ·cases hs
  ·cases hs
 ·cases hs
theorem bo0{T:Tab}{σ σ':c9}{m:Nat}{t:TypeId}{x k y:AV}(hs:C6 T σ t x k y=some σ'):C6 T { σ with next:=m } t x k y=some { σ' with next:=m }:=by
 unfold C6 at hs ⊢
 split at hs
 ·rename_i h1 h2
  try simp only[h1,h2]
  split at hs
  ·have e:∀ k,({ σ with next:=m }:c9).objs k=σ.objs k:=fun _=>rfl
   simp only[e]
   split at hs
   ·rename_i h4
    try simp only[h4]
    split at hs
    ·rename_i h5;cases hs;rw[if_pos h5];rfl
    ·rename_i h5
     rw[if_neg h5]
     split at hs
     ·rename_i h6;cases hs;rw[if_pos h6];rfl
     ·cases hs
   ·cases hs
  ·cases hs
 ·cases hs
theorem ie0{T:Tab}{σ σ':c9}{id m:Nat}{sT xT:TypeId}{s x v:AV}(h:N9 T σ id sT xT s x=some (v,σ')):N9 T { σ with next:=m } id sT xT s x=some (v,{ σ' with next:=m }):=by
 unfold N9 at h ⊢
 split at h
 ·rename_i h1 h2
  try simp only[h1,h2]
  split at h
  ·rename_i h3
   try simp only[h3]
   have e1:∀ e z y,S3 { σ with next:=m } e z y=S3 σ e z y:=fun _ _ _=>rfl
   have e2:∀ y,P6 { σ with next:=m } y=P6 σ y:=fun _=>rfl
   simp only[e1,e2]
   split at h
   ·rename_i h4 h5
    try simp only[h4,h5]
    split at h
    ·rename_i h6
     simp only[Option.some.injEq,Prod.mk.injEq]at h
     obtain⟨rfl,rfl⟩:=h
     rw[if_pos h6]
     simp only[Option.some.injEq,Prod.mk.injEq,true_and]
     split<;>rfl
    ·cases h
   ·cases h
  ·cases h
 ·cases h
theorem fN0(σ:c9)(m:Nat)(s:AV):w9 { σ with next:=m } s={ w9 σ s with next:=m }:=by
 unfold w9
 split
 ·rename_i id z len
  have e:({ σ with next:=m }:c9).objs id=σ.objs id:=rfl
  rw[e]
  split
  ·split<;>rfl
  ·rfl
 ·rfl
theorem gn0{T:Tab}{σ σ':c9}{id m:Nat}{sT xT:TypeId}{s x v:AV}(h:E9 T σ id sT xT s x=some (v,σ')):E9 T { σ with next:=m } id sT xT s x=some (v,{ σ' with next:=m }):=by
 unfold E9 at h ⊢
 split at h
 ·unfold df0 at h ⊢
  split at h
  ·split at h
   ·rename_i h4
    rw[if_pos h4]
    cases h;rfl
   ·cases h
  ·cases h
 ·rename_i hne
  rw[fN0]
  exact ie0 (m:=m) h
theorem oG0{T:Tab}{ρ:Operand->AV}{σ σ':c9}{id m:Nat}{op:Op}{v:AV}(h:aop T ρ σ id op=some (v,σ')):aop T ρ { σ with next:=m } id op=some (v,{ σ' with next:=m }):=by
 cases op with
 | move x=>cases h;rfl
 | assign x=>cases h;rfl
 | pick c a b =>
  simp only[aop]at h ⊢
  split at h
  ·rename_i hv;cases h;first | rfl | simp only[hv]
  ·cases h
 | build t ps =>
  simp only[aop]at h ⊢
  split at h
  ·rename_i hv;cases h;first | rfl | simp only[hv]
  ·cases h
 | binOp b t x y yt =>
  simp only[aop]at h ⊢
  split at h
  ·rename_i hv;cases h;first | rfl | simp only[hv]
  ·cases h
 | unOp b t x =>
  simp only[aop]at h ⊢
  split at h
  ·rename_i hv;cases h;first | rfl | simp only[hv]
  ·cases h
 | convert s d x =>
  simp only[aop]at h ⊢
  split at h
  ·rename_i hv;cases h;first | rfl | simp only[hv]
  ·cases h
 | slice t x lo hi mx =>
  simp only[aop]at h ⊢
  split at h
  ·rename_i hv;cases h;first | rfl | simp only[hv]
  ·cases h
 | fieldAddr t x f =>
  simp only[aop]at h ⊢
  split at h
  ·rename_i hv;cases h;first | rfl | simp only[hv]
  ·cases h
 | field t x f =>
  simp only[aop]at h ⊢
  split at h
  ·rename_i hv;cases h;first | rfl | simp only[hv]
  ·cases h
 | indexAddr t x i =>
  simp only[aop]at h ⊢
  split at h
  ·rename_i hv;cases h;first | rfl | simp only[hv]
  ·cases h
 | index t x i =>
  simp only[aop]at h ⊢
  split at h
  ·rename_i hv;cases h;first | rfl | simp only[hv]
  ·cases h
 | extract x i =>
  simp only[aop]at h ⊢
  split at h
  ·rename_i hv;cases h;first | rfl | simp only[hv]
  ·cases h
 | load t x =>
  simp only[aop]at h ⊢
  have e:am0 T { σ with next:=m } t (ρ x)=am0 T σ t (ρ x):=rfl
  rw[e]
  split at h
  ·rename_i hv;cases h;first | rfl | simp only[hv]
  ·cases h
 | lookup t x i ok =>
  simp only[aop]at h ⊢
  have e:H9 T { σ with next:=m } t (ρ x) (ρ i) ok=H9 T σ t (ρ x) (ρ i) ok:=rfl
  rw[e]
  split at h
  ·rename_i hv;cases h;first | rfl | simp only[hv]
  ·cases h
 | alloc t =>
  simp only[aop,fn0]at h ⊢
  split at h
  ·rename_i hv;cases h;(try simp only[hv]);rfl
  ·cases h
 | box t x =>
  simp only[aop,tG0]at h ⊢
  split at h
  ·rename_i hv;cases h;(try simp only[hv]);rfl
  ·cases h
 | buildSlice t len ps =>
  simp only[aop,I0]at h ⊢
  split at h
  ·rename_i h1
   split at h
   ·rename_i h2
    split at h
    ·rename_i h3
     split at h
     ·rename_i h4;cases h;(try simp only[h1,h2,h3,h4]);rfl
     ·cases h
    ·cases h
   ·cases h
  ·cases h
 | nilCheck x =>
  simp only[aop]at h ⊢
  split at h
  ·rename_i hv;cases h;first | rfl | simp only[hv]
  ·rename_i hv;cases h;first | rfl | simp only[hv]
  ·rename_i hv;cases h;first | rfl | simp only[hv]
  ·cases h
 | makeFunc f a c=>cases h;rfl
 | makeMap t r =>
  cases r with
  | some r=>simp[aop]at h
  | none=>cases h;rfl
 | store t a x =>
  simp only[aop]at h ⊢
  split at h
  ·rename_i σ1 hs
   cases h
   have e:V4 T { σ with next:=m } t (ρ a) (ρ x)=some { σ' with next:=m }:=by
    unfold V4 at hs ⊢
    split at hs
    ·rename_i h1 h2 h3
     try simp only[h1,h2,h3]
     have e:∀ k,({ σ with next:=m }:c9).objs k=σ.objs k:=fun _=>rfl
     simp only[e]
     split at hs
     ·rename_i h4
      try simp only[h4]
      split at hs
      ·rename_i h5
       try simp only[h5]
       split at hs
       ·rename_i h6;cases hs;rw[if_pos h6];rfl
       ·cases hs
      ·cases hs
     ·cases hs
    ·cases hs
   simp only[e]
  ·cases h
 | mapUpdate t x k y =>
  simp only[aop]at h ⊢
  split at h
  ·rename_i σ1 hs
   cases h
   simp only[bo0 hs]
  ·cases h
 | insert t x k y =>
  simp only[aop]at h ⊢
  split at h
  ·rename_i σ1 hs
   cases h
   simp only[bo0 hs]
  ·cases h
 | mapEntry t x k =>
  simp only[aop]at h ⊢
  exact fK0 h
 | entryStore t x s y =>
  simp only[aop]at h ⊢
  split at h
  ·rename_i σ1 hs
   cases h
   simp only[ea0 hs]
  ·cases h
 | call c =>
  obtain⟨callee,args,ts⟩:=c
  cases callee with
  | value f=>simp[aop]at h
  | invoke r m=>simp[aop]at h
  | builtin b =>
   simp only[aop]at h ⊢
   unfold F6 at h ⊢
   split at h
   ·rename_i h1 h2
    try simp only[h1,h2]
    have e:∀ t x,fJ0 T { σ with next:=m } t x=fJ0 T σ t x:=fun _ _=>rfl
    simp only[e]
    split at h
    ·rename_i hv;cases h;first | rfl | simp only[hv]
    ·cases h
   ·rename_i h1 h2
    try simp only[h1,h2]
    exact gn0 h
   ·rename_i h1 h2
    try simp only[h1,h2]
    split at h
    ·rename_i hv;cases h;first | rfl | simp only[hv]
    ·cases h
   ·rename_i h1
    split at h
    ·rename_i hv;cases h;first | rfl | simp only[hv]
    ·cases h
   ·rename_i h1
    split at h
    ·rename_i hv;cases h;first | rfl | simp only[hv]
    ·cases h
   ·cases h
 | _=>simp[aop]at h
structure Ev where
 uT:Nat->Option AV
 uO:Nat->Option (Option l7)
 uN:Option Nat
def bb0(P:Program)(ops:Array Oper)(n n0 N i:Nat)(cond:(Nat->AV)->c9->Prop)(ev:Ev):Prop :=
 ∀ G a w tm σ,uf0 G n tm σ a w->cond tm σ->G.pl (n0+i)=none->n0+N<=σ.next->∀ (K:Act->World->Prop) (Q:Exit->Act->World->Prop),
  (∀ G' a' w' σ',G.le G'->(∀ j,j<n0+N->j≠n0+i->G.pl j=none->G'.pl j=none)->σ.next<=σ'.next->Fr G σ w G' σ' w'->uf0 G' n (fun t=>(ev.uT t).getD (tm t)) σ' a' w' ->
   (∀ id,σ'.objs id=(ev.uO id).getD (σ.objs id))->σ'.next=ev.uN.getD σ.next->K a' w')->wpOp P ops Q i K a w
section
variable {P:Program} {T:Tab} {ops:Array Oper} {n n0 N i:Nat} {o:Oper} {tm0:Nat->AV}
theorem le0(ho:ops[i]?=some o)(hw:af0 ops n tm0 o=some false)(hd:S8 n o.dst=true) :
  bb0 P ops n n0 N i (fun tm _=>∀ t∈o.looksAt ops,tm t=tm0 t) ⟨mn0 o.dst (.sc undef),fun _=>none,none⟩:=by
 intro G a w tm σ hr hc _ _ K Q hK
 unfold wpOp
 simp only[ho,bS0 hr ((X0 hc).trans hw),Bool.false_eq_true,if_false]
 exact hK G _ w σ (.refl G) (fun _ _ _ h=>h) (Nat.le_refl _) (.refl _ _ _) (hr.put (.refl G) hr.rel (.sc _) hd) (fun _=>rfl) rfl
theorem jA0(hT:C2 P T)(ho:ops[i]?=some o)(hi:i<N)(hw:af0 ops n tm0 o=some true)(hd:S8 n o.dst=true)(st:c9)(v:AV)(σ1:c9)
  (ha:aop T (R4 tm0) (small st (cf0 (R4 tm0) o.op)) (n0+i) o.op=some (v,σ1)) :
  bb0 P ops n n0 N i (fun tm σ=>(∀ t∈o.looksAt ops,tm t=tm0 t)/\∀ id∈cf0 (R4 tm0) o.op,σ.objs id=st.objs id)
   ⟨mn0 o.dst v,fun id=>if isE o.op=true/\id∈cf0 (R4 tm0) o.op then some (σ1.objs id)else if id=n0+i then (match σ1.objs id with | some x=>some (some x) | none=>none)else none,none⟩:=by
 intro G a w tm σ hr ⟨hc1,hc2⟩ hfree hN K Q hK

 let σv:c9:={ small st (cf0 (R4 tm0) o.op)with next:=σ.next }
 have hv:∀ id x,σv.objs id=some x->σ.objs id=some x:=fun id x hx=>by
  have:(small st (cf0 (R4 tm0) o.op)).objs id=some x:=hx
  rw[cP0]at this
  split at this
  ·rename_i hm;rw[hc2 id hm];exact this
  ·cases this
 have hrv:Rel G σv w:=hr.rel.less rfl hv
 have hav:aop T (R4 tm0) σv (n0+i) o.op=some (v,{ σ1 with next:=σ.next }):=oG0 ha
 rw[<- qk0 (dI0 hc1)]at hav
 obtain⟨G',u,w',h1,h2,h3,h4,h5,h6⟩:=rB0 (P:=P) hT hrv hr.eval hfree (by show n0+i<σ.next;omega) hav
 have hlow:=kb0 ha
 obtain⟨σ',hn',ho'⟩:=fm0 (fun id=>((if isE o.op=true/\id∈cf0 (R4 tm0) o.op then some (σ1.objs id)else if id=n0+i then (match σ1.objs id with | some x=>some (some x) | none=>none)else none:Option (Option l7))).getD (σ.objs id)) σ.next (fun id hid=>by
  have hs1:({ σ1 with next:=σ.next }:c9).objs id=none:=by
   cases hh:({ σ1 with next:=σ.next }:c9).objs id with
   | none=>rfl
   | some x=>have:=h5.objs_lt hh;exact absurd this (by show ¬ id<σ.next;omega)
  have hs1':σ1.objs id=none:=hs1
  have hs2:σ.objs id=none:=by
   cases hh:σ.objs id with
   | none=>rfl
   | some x=>have:=hr.rel.objs_lt hh;omega
  simp only[hs1',hs2]
  split
  ·rfl
  ·split<;>rfl)
 have hσ:∀ id x,σ'.objs id=some x->({ σ1 with next:=σ.next }:c9).objs id=some x\/(σ.objs id=some x/\σv.objs id=none):=fun id x hx=>by
  rw[ho']at hx
  show σ1.objs id=some x\/_
  split at hx
  ·exact .inl (by simpa using hx)
  ·rename_i hne
   have old:σ.objs id=some x->σ1.objs id=some x\/(σ.objs id=some x/\σv.objs id=none):=fun hs=>by
    by_cases hm:id∈cf0 (R4 tm0) o.op
    ·have hE:isE o.op=false:=by
      cases he:isE o.op with
      | false=>rfl
      | true=>exact absurd ⟨he,hm⟩ hne
     have hsm:(small st (cf0 (R4 tm0) o.op)).objs id=some x:=by rw[cP0,if_pos hm,<-hc2 id hm];exact hs
     rcases hlow.2.2 hE with e | ⟨y,e⟩
     ·rw[e];exact .inl hsm
     ·by_cases e2:id=n0+i
      ·subst e2
       obtain⟨p,hp,_⟩:=hr.rel.objs _ _ hs
       rw[hfree]at hp;cases hp
      ·rw[e,c9.objs_set,if_neg e2];exact .inl hsm
    ·refine .inr ⟨hs,?_⟩
     show (small st (cf0 (R4 tm0) o.op)).objs id=none
     rw[cP0,if_neg hm]
   split at hx
   ·split at hx
    ·rename_i y hy
     simp only[Option.getD_some,Option.some.injEq]at hx
     subst hx;exact .inl hy
    ·exact old (by simpa using hx)
   ·exact old (by simpa using hx)
 have hrel':Rel G' σ' w':=hr.rel.frame hv h5 h6 h1 (fun id hid=>h5.fresh id (by show σ.next<=id;omega)) hσ
 have hfr':Fr G σ w G' σ' w':=Fr.frame hr.rel hv h6 h1 hσ
 unfold wpOp
 simp only[ho,bS0 hr ((X0 hc1).trans hw),if_true]
 left
 have fin:=hK G' (a.put o.dst u) w' σ' h1 (fun j _ hj hg=>h2 j hj hg) (by omega) hfr' (hr.put h1 hrel' h4 hd) ho' (by simp[hn'])
 unfold Oper.wp
 rcases h3 with h3 | ⟨h3,h7⟩
 ·rw[h3];exact fin
 ·rw[h3];subst h7;exact fin
end
end Go.Ab
namespace Go.Ab
open Go
variable [B0]
section
variable {P:Program} {ops:Array Oper} {n n0 N i:Nat} {o:Oper} {tm0:Nat->AV}
theorem lr0{fo:Operand}{args:Array Operand}{ts:Array TypeId}{f:FuncId}{first cap:List AV}(ho:ops[i]?=some o)(hop:o.op=.call { callee:=.value fo,args:=args,argTypes:=ts })
  (hw:af0 ops n tm0 o=some true) (hd:S8 n o.dst=true) (hfo:R4 tm0 fo=.fn (.func f) first cap)
  (st view:c9) (v:AV) (σ1:c9) (ex:Nat->Bool) (hvn:view.next=st.next) (hview:∀ id,view.objs id=if ex id then none else st.objs id) (hlow:∀ id,id<st.next->σ1.objs id=view.objs id)
  (hc:C1 P f (first++args.toList.map (R4 tm0)++cap) view (fun v' σ''=>v'=v/\σ''=σ1)) :
  bb0 P ops n n0 N i (fun tm σ=>(∀ t∈o.looksAt ops,tm t=tm0 t)/\σ.next=st.next/\∀ id,ex id=false->σ.objs id=st.objs id)
   ⟨mn0 o.dst v,fun id=>if id<st.next then none else some (σ1.objs id),some σ1.next⟩:=by
 intro G a w tm σ hr ⟨hc1,hc2,hc3⟩ hfree hN K Q hK
 have hvs:∀ id x,view.objs id=some x->σ.objs id=some x:=fun id x hx=>by
  rw[hview]at hx
  split at hx
  ·cases hx
  ·rename_i he;rw[hc3 id (by simpa using he)];exact hx
 have hrv:Rel G view w:=hr.rel.less (by rw[hvn,hc2]) hvs
 have hcong:=dI0 (ops:=ops) hc1
 have hfo':R4 tm fo=.fn (.func f) first cap:=by rw[hcong fo (by rw[hop];simp[Op.operands,Call.operands])];exact hfo
 have hargs':args.toList.map (R4 tm)=args.toList.map (R4 tm0):=bk0 (fun x hx=>hcong x (by rw[hop];simp[Op.operands,Call.operands,hx]))
 have hfv:=hr.eval fo
 rw[hfo']at hfv
 generalize hev:a.eval fo=u at hfv
 cases hfv with
 | fn _ _ _ fv cv h1 h2 h3 h4 =>
 have hargs:B7 G (first++args.toList.map (R4 tm0)++cap) (fv++args.toList.map a.eval++cv):=by
  rw[<- hargs']
  exact(B7.append (G:=G) ⟨h1,h3⟩ (B7.map hr.eval args.toList)).append ⟨h2,h4⟩
 have hrun:(execOp a.eval o).run P w=(callFunc f (fv++args.toList.map a.eval++cv).toArray).run P w:=by
  have e:fv.toArray++args.map a.eval++cv.toArray=(fv++args.toList.map a.eval++cv).toArray:=by apply Array.ext';simp
  simp only[execOp,hop,resolve,hev,Deferred.ofValue,Sem.run_bind,Sem.run_pure,Result.andThen_ok,invoke,e]
 unfold wpOp
 simp only[ho,bS0 hr ((X0 hc1).trans hw),if_true]
 left
 unfold Oper.wp
 rw[hrun]
 refine hc G _ w hargs hrv o a _ _ ?_
 rintro v' av σ'' G' w' b1 b2 b3 ⟨rfl,rfl⟩
 have hnx:st.next<=σ''.next:=by rw[<- hvn];exact b1.next
 obtain⟨σ',hn',ho'⟩:=fm0 (fun id=>((if id<st.next then none else some (σ''.objs id):Option (Option l7))).getD (σ.objs id)) σ''.next (fun id hid=>by
  rw[if_neg (by omega)]
  simp only[Option.getD_some]
  cases hh:σ''.objs id with
  | none=>rfl
  | some x=>have:=b3.objs_lt hh;omega)
 have hσ:∀ id x,σ'.objs id=some x->σ''.objs id=some x\/(σ.objs id=some x/\view.objs id=none):=fun id x hx=>by
  rw[ho']at hx
  split at hx
  ·rename_i hlt
   simp only[Option.getD_none]at hx
   cases hv:view.objs id with
   | none=>exact .inr ⟨hx,rfl⟩
   | some y =>
    have:=hvs id y hv
    rw[hx]at this;cases this
    exact .inl (by rw[hlow id hlt];exact hv)
  ·exact .inl (by simpa using hx)
 have hrel':Rel G' σ' w':=hr.rel.frame hvs b3 b1.fr b1.le (fun id hid=>b3.fresh id (by omega)) hσ
 have hfr':Fr G σ w G' σ' w':=Fr.frame hr.rel hvs b1.fr b1.le hσ
 exact hK G' (a.put o.dst v') w' σ' b1.le (fun j hj _ hg=>b1.keeps j (by rw[hvn,<-hc2];omega) hg) (by omega) hfr' (hr.put b1.le hrel' b2 hd) ho' (by simp[hn'])
theorem mF0{fo:Operand}{args:Array Operand}{ts:Array TypeId}{f:FuncId}{first cap:List AV}(ho:ops[i]?=some o)(hop:o.op=.call { callee:=.value fo,args:=args,argTypes:=ts })
  (hw:af0 ops n tm0 o=some true) (hd:S8 n o.dst=true) (hfo:R4 tm0 fo=.fn (.func f) first cap)
  (st:c9) (v:AV) (σ1:c9) (hc:C1 P f (first++args.toList.map (R4 tm0)++cap) st (fun v' σ''=>v'=v/\σ''=σ1)) :
  bb0 P ops n n0 N i (fun tm σ=>(∀ t∈o.looksAt ops,tm t=tm0 t)/\σ.next=st.next/\∀ id,σ.objs id=st.objs id)
   ⟨mn0 o.dst v,fun id=>some (σ1.objs id),some σ1.next⟩:=by
 intro G a w tm σ hr ⟨hc1,hc2,hc3⟩ hfree hN K Q hK
 have hvs:∀ id x,st.objs id=some x->σ.objs id=some x:=fun id x hx=>by rw[hc3];exact hx
 have hrv:Rel G st w:=hr.rel.less hc2.symm hvs
 have hcong:=dI0 (ops:=ops) hc1
 have hfo':R4 tm fo=.fn (.func f) first cap:=by rw[hcong fo (by rw[hop];simp[Op.operands,Call.operands])];exact hfo
 have hargs':args.toList.map (R4 tm)=args.toList.map (R4 tm0):=bk0 (fun x hx=>hcong x (by rw[hop];simp[Op.operands,Call.operands,hx]))
 have hfv:=hr.eval fo
 rw[hfo']at hfv
 generalize hev:a.eval fo=u at hfv
 cases hfv with
 | fn _ _ _ fv cv h1 h2 h3 h4 =>
 have hargs:B7 G (first++args.toList.map (R4 tm0)++cap) (fv++args.toList.map a.eval++cv):=by
  rw[<- hargs']
  exact(B7.append (G:=G) ⟨h1,h3⟩ (B7.map hr.eval args.toList)).append ⟨h2,h4⟩
 have hrun:(execOp a.eval o).run P w=(callFunc f (fv++args.toList.map a.eval++cv).toArray).run P w:=by
  have e:fv.toArray++args.map a.eval++cv.toArray=(fv++args.toList.map a.eval++cv).toArray:=by apply Array.ext';simp
  simp only[execOp,hop,resolve,hev,Deferred.ofValue,Sem.run_bind,Sem.run_pure,Result.andThen_ok,invoke,e]
 unfold wpOp
 simp only[ho,bS0 hr ((X0 hc1).trans hw),if_true]
 left
 unfold Oper.wp
 rw[hrun]
 refine hc G _ w hargs hrv o a _ _ ?_
 rintro v' av σ'' G' w' b1 b2 b3 ⟨rfl,rfl⟩
 have hnx:=b1.next
 have hfr':Fr G σ w G' σ'' w':=(Fr.less (σ:=σ) (σ':=st) hvs).trans b1.fr
 exact hK G' (a.put o.dst v') w' σ'' b1.le (fun j hj _ hg=>b1.keeps j (by omega) hg) (by omega) hfr' (hr.put b1.le b3 b2 hd) (fun _=>rfl) rfl
end
def anc1(acc:List Nat)(o:Oper):Nat:=o.after.toList.foldl (fun m e=>if Region.binds .any e then m ||| 2^e.on ||| acc.getD e.on 0 else m) 0
def da0:List Oper->List Nat->List Nat
 | [],acc=>acc
 | o::os,acc=>da0 os (acc++[anc1 acc o])
theorem jP0(acc:List Nat)(i:Nat):∀ (es:List Edge) (m:Nat),(es.foldl (fun m e=>if Region.binds .any e then m ||| 2^e.on ||| acc.getD e.on 0 else m) m).testBit i=true ->
  m.testBit i=true\/∃ e∈es,Region.binds .any e=true/\(i=e.on\/(acc.getD e.on 0).testBit i=true)
 | [],m,h=>.inl h
 | e::es,m,h=>by
  simp only[List.foldl_cons]at h
  rcases jP0 acc i es _ h with h1 | ⟨e',he',h1⟩
  ·split at h1
   ·rename_i hb
    rw[Nat.testBit_or,Nat.testBit_or,Bool.or_eq_true,Bool.or_eq_true]at h1
    rcases h1 with (h1 | h1) | h1
    ·exact .inl h1
    ·refine .inr ⟨e,by simp,hb,.inl ?_⟩
     rw[Nat.testBit_two_pow]at h1
     have:e.on=i:=by simpa using h1
     exact this.symm
    ·exact .inr ⟨e,by simp,hb,.inr h1⟩
   ·exact .inl h1
  ·exact .inr ⟨e',by simp[he'],h1⟩
theorem jT0:∀ (os:List Oper) (acc:List Nat) (j:Nat),j<acc.length->(da0 os acc).getD j 0=acc.getD j 0
 | [],acc,j,h=>rfl
 | o::os,acc,j,h=>by
  rw[da0,jT0 os _ j (by simp;omega)]
  simp[List.getD,List.getElem?_append,h]
theorem rN0:∀ (os:List Oper) (acc:List Nat) (k:Nat) (o:Oper),os[k]?=some o->∃ acc':List Nat,(da0 os acc).getD (acc.length+k) 0=anc1 acc' o/\acc'.length=acc.length+k/\∀ j,j<acc'.length->acc'.getD j 0=(da0 os acc).getD j 0
 | [],acc,k,o,h=>by simp at h
 | o'::os,acc,0,o,h=>by
  simp at h;subst h
  refine⟨acc,?_,by simp,fun j hj=>by rw[da0,jT0 os _ j (by simp;omega)];simp[List.getD,List.getElem?_append,hj]⟩
  rw[da0,Nat.add_zero,jT0 os _ _ (by simp)]
  simp[List.getD]
 | o'::os,acc,k+1,o,h=>by
  obtain⟨acc',h1,h2,h3⟩:=rN0 os (acc++[anc1 acc o']) k o (by simpa using h)
  refine⟨acc',?_,by simp at h2;omega,h3⟩
  rw[da0]
  simp only[List.length_append,List.length_cons,List.length_nil]at h1
  rw[show acc.length+(k+1)=acc.length+(0+1)+k from by omega]
  exact h1
def fy0(ops:Array Oper)(p:Nat->Bool):Prop:=∀ (j:Nat) (o:Oper),ops[j]?=some o->p j=true->∀ e∈o.after,Region.binds .any e=true->p e.on=true
theorem bI0{ops:Array Oper}{p:Nat->Bool}(hcl:fy0 ops p):∀ (j:Nat) (o:Oper),ops[j]?=some o->(∀ e∈o.after,Region.binds .any e=true->p e.on=true)->∀ i,((da0 ops.toList []).getD j 0).testBit i=true->p i=true:=by
 intro j
 induction j using Nat.strongRecOn with
 | _ j ih =>
  intro o ho hall i hb
  obtain⟨acc,h1,h2,h3⟩:=rN0 ops.toList [] j o (by simpa using ho)
  simp only[List.length_nil,Nat.zero_add]at h1 h2
  rw[h1]at hb
  rcases jP0 acc i _ _ hb with h | ⟨e,he,hbind,h⟩
  ·simp at h
  ·have hpe:=hall e (by simpa using he) hbind
   rcases h with rfl | h
   ·exact hpe
   ·by_cases hlt:e.on<acc.length
    ·rw[h3 _ hlt]at h
     have hsz:j<ops.size:=(Array.getElem?_eq_some_iff.1 ho).1
     have hoe:ops[e.on]?=some (ops[e.on]'(by omega)):=Array.getElem?_eq_getElem _
     exact ih e.on (by omega) _ hoe (hcl e.on _ hoe hpe) i h
    ·rw[show acc.getD e.on 0=0 from by simp[List.getD,List.getElem?_eq_none (Nat.le_of_not_lt hlt)]]at h
     simp at h
end Go.Ab
namespace Go.Ab
open Go
variable [B0]
structure Inf where
 rd:List Nat
 wr:List Nat
 call:Bool
 nx:Nat
 bar:Bool
def idle:Op->Bool
 | .move _ | .assign _ | .pick .. | .build .. | .nilCheck _ | .binOp .. | .unOp .. | .convert .. | .makeFunc .. | .slice .. | .fieldAddr .. | .field .. | .indexAddr .. | .index .. | .extract ..=>true
 | _=>false
theorem sE0{T:Tab}{ρ:Operand->AV}{σ σ':c9}{id:Nat}{op:Op}{v:AV}(h:aop T ρ σ id op=some (v,σ'))(hi:idle op=true):σ'=σ/\cf0 ρ op=[]/\isE op=false:=by
 cases op with
 | move x=>cases h;exact⟨rfl,rfl,rfl⟩
 | assign x=>cases h;exact⟨rfl,rfl,rfl⟩
 | makeFunc f a c=>cases h;exact⟨rfl,rfl,rfl⟩
 | nilCheck x =>
  simp only[aop]at h
  split at h
  ·cases h;exact⟨rfl,rfl,rfl⟩
  ·cases h;exact⟨rfl,rfl,rfl⟩
  ·cases h;exact⟨rfl,rfl,rfl⟩
  ·cases h
 | pick _ _ _=>simp only[aop]at h;split at h<;>first | (cases h;exact⟨rfl,rfl,rfl⟩) | cases h
 | build _ _=>simp only[aop]at h;split at h<;>first | (cases h;exact⟨rfl,rfl,rfl⟩) | cases h
 | binOp _ _ _ _ _=>simp only[aop]at h;split at h<;>first | (cases h;exact⟨rfl,rfl,rfl⟩) | cases h
 | unOp _ _ _=>simp only[aop]at h;split at h<;>first | (cases h;exact⟨rfl,rfl,rfl⟩) | cases h
 | convert _ _ _=>simp only[aop]at h;split at h<;>first | (cases h;exact⟨rfl,rfl,rfl⟩) | cases h
 | slice _ _ _ _ _=>simp only[aop]at h;split at h<;>first | (cases h;exact⟨rfl,rfl,rfl⟩) | cases h
 | fieldAddr _ _ _=>simp only[aop]at h;split at h<;>first | (cases h;exact⟨rfl,rfl,rfl⟩) | cases h
 | field _ _ _=>simp only[aop]at h;split at h<;>first | (cases h;exact⟨rfl,rfl,rfl⟩) | cases h
 | indexAddr _ _ _=>simp only[aop]at h;split at h<;>first | (cases h;exact⟨rfl,rfl,rfl⟩) | cases h
 | index _ _ _=>simp only[aop]at h;split at h<;>first | (cases h;exact⟨rfl,rfl,rfl⟩) | cases h
 | extract _ _=>simp only[aop]at h;split at h<;>first | (cases h;exact⟨rfl,rfl,rfl⟩) | cases h
 | _=>simp[idle]at hi
def Y3(σ1:c9):List Nat->c9->c9
 | [],σ=>σ
 | i::is,σ=>Y3 σ1 is (match σ1.objs i with | some o=>σ.set i o | none=>σ.del i)
theorem ar0(σ1:c9):∀ (is:List Nat) (σ:c9) (k:Nat),(Y3 σ1 is σ).objs k=if k∈is then σ1.objs k else σ.objs k
 | [],σ,k=>by simp[Y3]
 | i::is,σ,k=>by
  rw[Y3,ar0 σ1 is]
  by_cases e:k∈is
  ·simp[e]
  ·rw[if_neg e]
   by_cases e2:k=i
   ·subst e2
    rw[if_pos (by simp)]
    cases h:σ1.objs k with
    | none=>simp[c9.objs_del]
    | some o=>simp[c9.objs_set]
   ·rw[if_neg (by simp[e,e2])]
    cases h:σ1.objs i with
    | none=>simp[c9.objs_del,e2]
    | some o=>simp[c9.objs_set,e2]
theorem au0(σ1:c9):∀ (is:List Nat) (σ:c9),(Y3 σ1 is σ).next=σ.next
 | [],σ=>rfl
 | i::is,σ=>by rw[Y3,au0 σ1 is];cases σ1.objs i<;>rfl
def bf0(n0 N mask:Nat):List Nat:=(List.range N).filterMap fun j=>if mask.testBit j then none else some (n0+j)
def saved(σ:c9)(ids:List Nat):List (Nat×l7):=ids.filterMap fun id=>(σ.objs id).map fun o=>(id,o)
def V3:List (Nat×l7)->c9->c9
 | [],σ=>σ
 | p::ps,σ=>V3 ps (σ.del p.1)
def aV0:List (Nat×l7)->c9->c9
 | [],σ=>σ
 | p::ps,σ=>aV0 ps (σ.set p.1 p.2)
theorem hh0:∀ (l:List (Nat×l7)) (σ:c9) (k:Nat),(V3 l σ).objs k=if k∈l.map (·.1)then none else σ.objs k
 | [],σ,k=>by simp[V3]
 | p::ps,σ,k=>by
  rw[V3,hh0 ps,c9.objs_del]
  by_cases e:k∈ps.map (·.1)
  ·simp[e]
  ·by_cases e2:k=p.1
   ·simp[e2]
   ·rw[if_neg e,if_neg e2,if_neg (by simp only[List.map_cons,List.mem_cons,not_or];exact⟨e2,e⟩)]
theorem dK0:∀ (l:List (Nat×l7)) (σ:c9),(V3 l σ).next=σ.next
 | [],σ=>rfl
 | p::ps,σ=>by rw[V3,dK0 ps];rfl
theorem dD0:∀ (l:List (Nat×l7)) (σ:c9),(aV0 l σ).next=σ.next
 | [],σ=>rfl
 | p::ps,σ=>by rw[aV0,dD0 ps];rfl
theorem hF0(g:Nat->Option l7):∀ (l:List (Nat×l7)) (σ:c9) (k:Nat),(∀ p∈l,g p.1=some p.2)->(aV0 l σ).objs k=if k∈l.map (·.1)then g k else σ.objs k
 | [],σ,k,_=>by simp[aV0]
 | p::ps,σ,k,h=>by
  rw[aV0,hF0 g ps _ k (fun q hq=>h q (by simp[hq])),c9.objs_set]
  by_cases e:k∈ps.map (·.1)
  ·simp[e]
  ·by_cases e2:k=p.1
   ·subst e2
    rw[if_neg e,if_pos rfl,if_pos (by simp),h p (by simp)]
   ·rw[if_neg e,if_neg e2,if_neg (by simp only[List.map_cons,List.mem_cons,not_or];exact⟨e2,e⟩)]
theorem pC0(σ:c9)(ids:List Nat):(∀ p∈saved σ ids,σ.objs p.1=some p.2)/\∀ k,k∈(saved σ ids).map (·.1)↔k∈ids/\(σ.objs k).isSome=true:=by
 refine⟨fun p hp=>?_,fun k=>?_⟩
 ·obtain⟨id,_,h⟩:=List.mem_filterMap.1 hp
  cases ho:σ.objs id with
  | none=>simp[ho]at h
  | some o=>simp[ho]at h;subst h;exact ho
 ·constructor
  ·intro h
   obtain⟨p,hp,rfl⟩:=List.mem_map.1 h
   obtain⟨id,hid,h⟩:=List.mem_filterMap.1 hp
   cases ho:σ.objs id with
   | none=>simp[ho]at h
   | some o=>simp[ho]at h;subst h;exact⟨hid,by simp[ho]⟩
  ·rintro ⟨h1,h2⟩
   cases ho:σ.objs k with
   | none=>simp[ho]at h2
   | some o=>exact List.mem_map.2 ⟨(k,o),List.mem_filterMap.2 ⟨k,h1,by simp[ho]⟩,rfl⟩
def fO0(T:Tab)(cl:FuncId->List AV->c9->Option (AV×c9))(ops:Array Oper)(n0 N mask i:Nat)(bar:Bool)(s:AS)(o:Oper):Option (AS×Inf) :=
 match E3 ops s o,S8 s.n o.dst with
 | some false,true=>some (s.put o.dst (.sc undef),⟨[],[],false,0,false⟩)
 | some true,true =>
  match o.op with
  | .call { callee:=.value fo,args:=args,argTypes:=_ } =>
   match s.eval fo with
   | .fn (.func f) first cap =>
    if bar then
     match cl f (first++args.toList.map s.eval++cap) s.st with
     | some (v,σ1)=>if s.st.next<=σ1.next then some ({ s with st:=σ1 }.put o.dst v,⟨[],[],false,0,true⟩)else none
     | none=>none
    else
    match cl f (first++args.toList.map s.eval++cap) { V3 (saved s.st (bf0 n0 N mask)) s.st with low:=s.st.next } with
    | some (v,σ1)=>if s.st.next<=σ1.low/\s.st.next<=σ1.next then
      some ({ s with st:={ aV0 (saved s.st (bf0 n0 N mask)) σ1 with low:=min s.st.low s.st.next } }.put o.dst v,⟨[],[],true,s.st.next,false⟩)
     else none
    | none=>none
   | _=>none
  | op =>
   match aop T s.eval (small s.st (cf0 s.eval op)) (n0+i) op with
   | some (v,σ1) =>
    some ({ s with st:=(match σ1.objs (n0+i)with
     | some x=>(if isE op then Y3 σ1 (cf0 s.eval op) s.st else s.st).set (n0+i) x
     | none=>(if isE op then Y3 σ1 (cf0 s.eval op) s.st else s.st)) }.put o.dst v,⟨cf0 s.eval op,if isE op then cf0 s.eval op else [],false,0,false⟩)
   | none=>none
 | _,_=>none
def oA0(ops:Array Oper)(masks:List Nat)(i:Nat):Bool :=
 (List.range ops.size).all fun j=>j==i||(match ops[j]? with | some o=>idle o.op | none=>true)||(masks.getD i 0).testBit j||(masks.getD j 0).testBit i
def fh0:Op->Bool
 | .call { callee:=.value _,.. }=>true
 | _=>false
def tZ0(T:Tab)(cl:FuncId->List AV->c9->Option (AV×c9))(ops:Array Oper)(n0 N:Nat)(masks:List Nat):List Oper->Nat->AS->Option (AS×List Inf)
 | [],_,s=>some (s,[])
 | o::rest,i,s=>match fO0 T cl ops n0 N (masks.getD i 0) i (fh0 o.op&&oA0 ops masks i) s o with
  | some (s1,f)=>match tZ0 T cl ops n0 N masks rest (i+1) s1 with
   | some (s2,fs)=>some (s2,f::fs)
   | none=>none
  | none=>none
def fo0(n0 i j:Nat)(a b:Inf):Bool :=
 (a.wr.all fun x=>!(b.rd++b.wr).contains x)&&(b.wr.all fun x=>!a.rd.contains x)&&!(b.rd++b.wr).contains (n0+i)&&!(a.rd++a.wr).contains (n0+j)&&!(a.call&&b.call)&&!a.bar&&!b.bar &&
 (!a.call||(b.wr.isEmpty&&b.rd.all fun x=>decide (x<a.nx)))&&(!b.call||(a.wr.isEmpty&&a.rd.all fun x=>decide (x<b.nx)))
def bX0(ops:Array Oper)(masks:List Nat):List (Nat×Nat) :=
 (List.range ops.size).flatMap fun j=>(List.range j).filterMap fun i =>
  if (masks.getD j 0).testBit i then none else
  match ops[i]?,ops[j]? with
  | some a,some b=>if idle a.op||idle b.op then none else some (i,j)
  | _,_=>none
def kt0(ops:Array Oper)(masks:List Nat):Bool :=
 (List.range ops.size).all fun j=>(match ops[j]? with | some o=>o.after.all (fun e=>!Region.binds .any e||decide (e.on<j)) | none=>true) &&
  (List.range j).all fun i=>(masks.getD j 0).testBit i||(match ops[i]?,ops[j]? with | some a,some b=>a.apart ops b | _,_=>true)
def aW0(T:Tab)(cl:FuncId->List AV->c9->Option (AV×c9))(ops:Array Oper)(s:AS):Option AS :=
 if kt0 ops (da0 ops.toList [])then
  match tZ0 T cl ops s.st.next ops.size (da0 ops.toList []) ops.toList 0 { s with st:={ s.st with next:=s.st.next+ops.size } } with
  | some (s',fs)=>if (bX0 ops (da0 ops.toList [])).all (fun p=>fo0 s.st.next p.1 p.2 (fs.getD p.1 ⟨[],[],false,0,false⟩) (fs.getD p.2 ⟨[],[],false,0,false⟩))then some s' else none
  | none=>none
 else none
end Go.Ab
namespace Go.Ab
open Go
variable [B0]
def Cond(ops:Array Oper)(n0 N mask:Nat)(o:Oper)(f:Inf)(s:AS)(tm:Nat->AV)(σ:c9):Prop :=
 (∀ t∈o.looksAt ops,tm t=s.get t)/\(∀ id∈f.rd,σ.objs id=s.st.objs id)/\(f.call=true->σ.next=s.st.next/\∀ id,id∉bf0 n0 N mask->σ.objs id=s.st.objs id) /\
  (f.bar=true->σ.next=s.st.next/\∀ id,σ.objs id=s.st.objs id)
structure EvOk(n0 N i:Nat)(o:Oper)(f:Inf)(ev:Ev):Prop where
 tmp:∀ t,ev.uT t≠none->o.dst=some t
 obj:∀ id,ev.uO id≠none->id∈f.wr\/id=n0+i\/(f.call=true/\f.nx<=id)\/f.bar=true
 num:f.call=false->f.bar=false->ev.uN=none
 start:f.call=true->n0+N<=f.nx
 idle:idle o.op=true->(∀ id,ev.uO id=none)/\f.call=false/\f.rd=[]/\f.bar=false
theorem jq0(s:AS)(σ:c9)(d:Option Tmp)(v:AV)(t:Nat):({ s with st:=σ }.put d v).get t=(mn0 d v t).getD (s.get t):=by
 cases d with
 | none=>rfl
 | some d =>
  rw[AS.get_put]
  simp only[mn0]
  by_cases e:t=d
  ·simp[e]
  ·rw[if_neg e,if_neg (by simp;exact fun h=>e h.symm)];rfl
theorem bb0.weak{P:Program}{ops:Array Oper}{n n0 N i:Nat}{c c':(Nat->AV)->c9->Prop}{ev:Ev}(h:bb0 P ops n n0 N i c ev)(hc:∀ tm σ,c' tm σ->c tm σ):bb0 P ops n n0 N i c' ev :=
 fun G a w tm σ hr hc'=>h G a w tm σ hr (hc tm σ hc')
theorem lG0{n0 N mask id:Nat}:id∈bf0 n0 N mask↔∃ j,j<N/\mask.testBit j=false/\id=n0+j:=by
 unfold bf0
 rw[List.mem_filterMap]
 constructor
 ·rintro ⟨j,hj,h⟩
  split at h
  ·cases h
  ·rename_i hb
   cases h
   exact⟨j,by simpa using hj,by simpa using hb,rfl⟩
 ·rintro ⟨j,hj,hb,rfl⟩
  exact⟨j,by simpa using hj,by simp[hb]⟩
section
variable {P:Program} {T:Tab} (hT:C2 P T) {cl:FuncId->List AV->c9->Option (AV×c9)}
 (hcl:∀ f args σ v σ',cl f args σ=some (v,σ')->C1 P f args σ (fun v' σ''=>v'=v/\σ''=σ')/\Z2 σ σ')
 {ops:Array Oper} {n0 N:Nat}
include hT hcl
theorem tu0{mask i:Nat}{bar:Bool}{s s1:AS}{o:Oper}{f:Inf}(ho:ops[i]?=some o)(hi:i<N)(hn:n0+N<=s.st.next)(h:fO0 T cl ops n0 N mask i bar s o=some (s1,f)) :
  ∃ ev,EvOk n0 N i o f ev/\(∀ t,s1.get t=(ev.uT t).getD (s.get t))/\(∀ id,s1.st.objs id=(ev.uO id).getD (s.st.objs id))/\s1.st.next=ev.uN.getD s.st.next/\s1.n=s.n/\s.st.next<=s1.st.next /\
   bb0 P ops s.n n0 N i (Cond ops n0 N mask o f s) ev:=by
 unfold fO0 at h
 split at h
 ·rename_i hw hd
  cases h
  refine⟨⟨mn0 o.dst (.sc undef),fun _=>none,none⟩,⟨fun t ht=>?_,fun id hid=>absurd rfl hid,fun _ _=>rfl,(fun h=>by cases h),fun _=>⟨fun _=>rfl,rfl,rfl,rfl⟩⟩,fun t=>?_,fun id=>by simp,by simp,by simp,by simp,?_⟩
  ·simp only[mn0]at ht;split at ht
   ·assumption
   ·exact absurd rfl ht
  ·have:=jq0 s s.st o.dst (.sc undef) t;exact this
  ·exact(le0 ho hw hd).weak fun tm σ hc=>hc.1
 ·rename_i hw hd
  split at h
  ·rename_i fo args ts hop
   split at h
   ·rename_i fi first cap hfo
    split at h
    ·split at h
     ·rename_i v σ1 hc
      split at h
      ·rename_i hnx
       cases h
       obtain⟨hcalls,hlo⟩:=hcl _ _ _ _ _ hc
       have hargs:args.toList.map s.eval=args.toList.map (R4 s.get):=List.map_congr_left fun x _=>AS.eval_eq s x
       refine⟨⟨mn0 o.dst v,fun id=>some (σ1.objs id),some σ1.next⟩,⟨fun t ht=>?_,fun id hid=>.inr (.inr (.inr rfl)),(fun _ h=>by cases h),(fun h=>by cases h),(fun h=>by rw[hop]at h;simp[Go.Ab.idle]at h)⟩,fun t=>jq0 s _ o.dst v t,fun id=>by simp,by simp,by simp,by simpa using hnx,?_⟩
       ·simp only[mn0]at ht;split at ht
        ·assumption
        ·exact absurd rfl ht
       ·refine(mF0 (n0:=n0) (N:=N) ho hop hw hd (by rw[<- AS.eval_eq];exact hfo) s.st v σ1 (by rw[<- hargs];exact hcalls)).weak ?_
        rintro tm σ ⟨c1,c2,c3,c4⟩
        exact⟨c1,c4 rfl⟩
      ·cases h
     ·cases h
    split at h
    ·rename_i v σ1 hc
     split at h
     ·rename_i hlow
      cases h
      obtain⟨hcalls,hlo⟩:=hcl _ _ _ _ _ hc
      obtain⟨hs1,hs2⟩:=pC0 s.st (bf0 n0 N mask)
      have hview:∀ id,({ V3 (saved s.st (bf0 n0 N mask)) s.st with low:=s.st.next }:c9).objs id=if (bf0 n0 N mask).contains id then none else s.st.objs id:=fun id=>by
       show (V3 (saved s.st (bf0 n0 N mask)) s.st).objs id=_
       rw[hh0]
       by_cases e:id∈bf0 n0 N mask
       ·have:(bf0 n0 N mask).contains id=true:=by simpa using e
        rw[this]
        simp only[if_true]
        cases hso:s.st.objs id with
        | none=>simp
        | some x=>rw[if_pos ((hs2 id).2 ⟨e,by simp[hso]⟩)]
       ·have:(bf0 n0 N mask).contains id=false:=by simpa using e
        rw[this]
        rw[if_neg (fun hh=>e ((hs2 id).1 hh).1)]
        simp
      have hlo':∀ id,id<s.st.next->σ1.objs id=({ V3 (saved s.st (bf0 n0 N mask)) s.st with low:=s.st.next }:c9).objs id:=fun id hid=>hlo.2 id (by omega)
      have hex:∀ id,id∈bf0 n0 N mask->id<s.st.next:=fun id hid=>by
       obtain⟨j,hj,_,rfl⟩:=lG0.1 hid;omega
      refine⟨⟨mn0 o.dst v,fun id=>if id<s.st.next then none else some (σ1.objs id),some σ1.next⟩,⟨fun t ht=>?_,fun id hid=>?_,(fun h _=>by cases h),fun _=>hn,(fun h=>by rw[hop]at h;simp[Go.Ab.idle]at h)⟩,fun t=>jq0 s _ o.dst v t,fun id=>?_,?_,by simp,?_,?_⟩
      ·simp only[mn0]at ht;split at ht
       ·assumption
       ·exact absurd rfl ht
      ·refine .inr (.inr (.inl ⟨rfl,?_⟩))
       simp only at hid
       split at hid
       ·exact absurd rfl hid
       ·show s.st.next<=id
        omega
      ·simp only[AS.put_st]
       show (aV0 (saved s.st (bf0 n0 N mask)) σ1).objs id=_
       rw[hF0 s.st.objs _ _ _ hs1]
       by_cases e:id<s.st.next
       ·rw[if_pos e]
        simp only[Option.getD_none]
        split
        ·rfl
        ·rename_i hns
         rw[hlo' id e,hview id]
         split
         ·rename_i hc2
          cases hso:s.st.objs id with
          | none=>rfl
          | some x=>exact absurd ((hs2 id).2 ⟨by simpa using hc2,by simp[hso]⟩) hns
         ·rfl
       ·rw[if_neg e,if_neg (fun hh=>e (hex id ((hs2 id).1 hh).1))]
        rfl
      ·simp only[AS.put_st]
       show (aV0 (saved s.st (bf0 n0 N mask)) σ1).next=_
       rw[dD0];rfl
      ·simp only[AS.put_st]
       show s.st.next<=(aV0 (saved s.st (bf0 n0 N mask)) σ1).next
       rw[dD0];exact hlow.2
      ·have hargs:args.toList.map s.eval=args.toList.map (R4 s.get):=List.map_congr_left fun x _=>AS.eval_eq s x
       refine(lr0 (n0:=n0) (N:=N) ho hop hw hd (by rw[<- AS.eval_eq];exact hfo) s.st { V3 (saved s.st (bf0 n0 N mask)) s.st with low:=s.st.next } v σ1 (fun id=>(bf0 n0 N mask).contains id) (dK0 _ _) hview hlo' (by rw[<- hargs];exact hcalls)).weak ?_
       rintro tm σ ⟨c1,c2,c3,_⟩
       obtain⟨c4,c5⟩:=c3 rfl
       exact⟨c1,c4,fun id hid=>c5 id (by simpa using hid)⟩
     ·cases h
    ·cases h
   ·cases h
  ·rename_i hnc
   split at h
   ·rename_i v σ1 ha
    cases h
    have hev:s.eval=R4 s.get:=funext (AS.eval_eq s)
    rw[hev]at ha
    have hlow:=kb0 ha
    refine⟨_,⟨fun t ht=>?_,fun id hid=>?_,fun _ _=>rfl,(fun h=>by cases h),fun hidle=>?_⟩,fun t=>jq0 s _ o.dst v t,fun id=>?_,?_,by simp,?_,(jA0 hT ho hi hw hd s.st v σ1 ha).weak ?_⟩
    ·simp only[mn0]at ht;split at ht
     ·assumption
     ·exact absurd rfl ht
    ·simp only at hid
     rw[hev]
     split at hid
     ·rename_i hc;left;rw[if_pos hc.1];exact hc.2
     ·split at hid
      ·rename_i e;exact .inr (.inl e)
      ·exact absurd rfl hid
    ·obtain⟨e1,e2,e3⟩:=sE0 ha hidle
     refine⟨fun id=>?_,rfl,by rw[hev];exact e2,rfl⟩
     simp only[e3,Bool.false_eq_true,false_and,if_false]
     split
     ·rw[e1,cP0,e2];simp
     ·rfl
    ·simp only[AS.put_st]
     rw[hev]
     by_cases hE:isE o.op=true
     ·simp only[hE,if_true,true_and]
      by_cases hm:id∈cf0 (R4 s.get) o.op
      ·rw[if_pos hm]
       split
       ·rename_i x hx
        rw[c9.objs_set]
        split
        ·rename_i e;rw[e];simp[hx]
        ·rw[ar0,if_pos hm];rfl
       ·rw[ar0,if_pos hm];rfl
      ·rw[if_neg hm]
       split
       ·rename_i x hx
        rw[c9.objs_set]
        split
        ·rename_i e;rw[e];simp[hx]
        ·rw[ar0,if_neg hm];rfl
       ·rename_i hx
        rw[ar0,if_neg hm]
        split
        ·rename_i e;rw[e];simp[hx]
        ·rfl
     ·have hE':isE o.op=false:=by simpa using hE
      simp only[hE',Bool.false_eq_true,if_false,false_and]
      split
      ·rename_i x hx
       rw[c9.objs_set]
       split
       ·rename_i e;rw[e];simp[hx]
       ·rfl
      ·rename_i hx
       split
       ·rename_i e;rw[e];simp[hx]
       ·rfl
    ·simp only[AS.put_st,Option.getD_none]
     split
     ·simp only[c9.set_next];split
      ·rw[au0]
      ·rfl
     ·split
      ·rw[au0]
      ·rfl
    ·simp only[AS.put_st]
     split
     ·simp only[c9.set_next];split
      ·rw[au0];exact Nat.le_refl _
      ·exact Nat.le_refl _
     ·split
      ·rw[au0];exact Nat.le_refl _
      ·exact Nat.le_refl _
    ·rintro tm σ ⟨c1,c2,_⟩
     exact⟨c1,fun id hid=>c2 id (by rw[hev];exact hid)⟩
   ·cases h
 ·cases h
theorem mK0{masks:List Nat}:∀ (l:List Oper) (i:Nat) (s s':AS) (fs:List Inf),(∀ j:Nat,l[j]?=ops[i+j]?)->i+l.length<=N->n0+N<=s.st.next->tZ0 T cl ops n0 N masks l i s=some (s',fs) ->
  ∃ (evs:List Ev) (sts:List AS),evs.length=l.length/\fs.length=l.length/\sts.length=l.length/\s'.n=s.n /\
   (∀ (j:Nat) o f ev st,l[j]?=some o->fs[j]?=some f->evs[j]?=some ev->sts[j]?=some st->EvOk n0 N (i+j) o f ev/\bb0 P ops s.n n0 N (i+j) (Cond ops n0 N (masks.getD (i+j) 0) o f st) ev/\(f.call=true->f.nx=st.st.next) /\
    (∀ t,st.get t=fold (fun k=>decide (k<i+j)) (evs.map (·.uT)) i s.get t)/\(∀ id,st.st.objs id=fold (fun k=>decide (k<i+j)) (evs.map (·.uO)) i s.st.objs id) /\
    (st.st.next=fold (fun k=>decide (k<i+j)) (evs.map fun e=>fun _:Unit=>e.uN) i (fun _=>s.st.next) ())) /\
   (∀ t,s'.get t=fold (fun _=>true) (evs.map (·.uT)) i s.get t)/\(∀ id,s'.st.objs id=fold (fun _=>true) (evs.map (·.uO)) i s.st.objs id) /\
   (s'.st.next=fold (fun _=>true) (evs.map fun e=>fun _:Unit=>e.uN) i (fun _=>s.st.next) ())
 | [],i,s,s',fs,_,_,_,h=>by
  simp only[tZ0,Option.some.injEq,Prod.mk.injEq]at h
  obtain⟨rfl,rfl⟩:=h
  exact⟨[],[],rfl,rfl,rfl,rfl,fun j o f ev st hj=>by simp at hj,fun _=>rfl,fun _=>rfl,rfl⟩
 | o::rest,i,s,s',fs,hl,hN,hn,h=>by
  have ho:ops[i]?=some o:=by have:=hl 0;simpa using this.symm
  have hl':∀ j:Nat,rest[j]?=ops[i+1+j]?:=fun j=>by have:=hl (j+1);simpa[Nat.add_assoc,Nat.add_comm 1 j]using this
  simp only[List.length_cons]at hN
  unfold tZ0 at h
  split at h
  ·rename_i s1 f hs
   split at h
   ·rename_i s2 fs' hr
    cases h
    obtain⟨ev,e1,e2,e3,e4,e5,e6,e7⟩:=tu0 hT hcl ho (by omega) hn hs
    obtain⟨evs,sts,l1,l2,l3,l4,hall,g1,g2,g3⟩:=mK0 rest (i+1) s1 s' fs' hl' (by omega) (by omega) hr
    have hnone:∀ k,i<=k->decide (k<i+0)=false:=fun k hk=>by simp;omega
    have f1:∀ (p:Nat->Bool),p i=true->∀ t,fold p ((ev::evs).map (·.uT)) i s.get t=fold p (evs.map (·.uT)) (i+1) s1.get t:=fun p hp t=>by
     simp only[List.map_cons,fold,hp,cond_true]
     rw[show (fun l=>(ev.uT l).getD (s.get l))=s1.get from funext fun t=>(e2 t).symm]
    have f2:∀ (p:Nat->Bool),p i=true->∀ id,fold p ((ev::evs).map (·.uO)) i s.st.objs id=fold p (evs.map (·.uO)) (i+1) s1.st.objs id:=fun p hp id=>by
     simp only[List.map_cons,fold,hp,cond_true]
     rw[show (fun l=>(ev.uO l).getD (s.st.objs l))=s1.st.objs from funext fun t=>(e3 t).symm]
    have f3:∀ (p:Nat->Bool),p i=true->fold p ((ev::evs).map fun e=>fun _:Unit=>e.uN) i (fun _=>s.st.next) ()=fold p (evs.map fun e=>fun _:Unit=>e.uN) (i+1) (fun _=>s1.st.next) ():=fun p hp=>by
     simp only[List.map_cons,fold,hp,cond_true]
     rw[show (fun _:Unit=>ev.uN.getD s.st.next)=(fun _=>s1.st.next)from funext fun _=>e4.symm]
    refine⟨ev::evs,s::sts,by simp[l1],by simp[l2],by simp[l3],by rw[l4,e5],fun j o' f' ev' st' h1 h2 h3 h4=>?_,fun t=>by rw[f1 _ rfl];exact g1 t,fun id=>by rw[f2 _ rfl];exact g2 id,by rw[f3 _ rfl];exact g3⟩
    cases j with
    | zero =>
     simp only[List.getElem?_cons_zero,Option.some.injEq]at h1 h2 h3 h4
     subst h1 h2 h3 h4
     refine⟨e1,e7,fun hc=>?_,fun t=>(aB0 t _ i _ _ (fun j u _ hp=>by have:=of_decide_eq_true hp;omega) rfl).symm,fun id=>(aB0 id _ i _ _ (fun j u _ hp=>by have:=of_decide_eq_true hp;omega) rfl).symm,(aB0 (p:=fun k=>decide (k<i+0)) () _ i (fun _=>s.st.next) s.st.next (fun j u _ hp=>by have:=of_decide_eq_true hp;omega) rfl).symm⟩
     ·
      unfold fO0 at hs
      split at hs
      ·cases hs;cases hc
      ·split at hs
       ·split at hs
        ·split at hs
         ·split at hs
          ·split at hs
           ·cases hs;cases hc
           ·cases hs
          ·cases hs
         split at hs
         ·split at hs
          ·cases hs;rfl
          ·cases hs
         ·cases hs
        ·cases hs
       ·split at hs
        ·cases hs;cases hc
        ·cases hs
      ·cases hs
    | succ j =>
     simp only[List.getElem?_cons_succ]at h1 h2 h3 h4
     obtain⟨q1,q2,q3,q4,q5,q6⟩:=hall j o' f' ev' st' h1 h2 h3 h4
     have hp:decide (i<i+(j+1))=true:=by simp
     rw[show i+1+j=i+(j+1)from by omega]at q1 q2 q4 q5 q6
     rw[e5]at q2
     exact⟨q1,q2,q3,fun t=>by rw[f1 _ hp];exact q4 t,fun id=>by rw[f2 _ hp];exact q5 id,by rw[f3 _ hp];exact q6⟩
   ·cases h
  ·cases h
end
end Go.Ab
