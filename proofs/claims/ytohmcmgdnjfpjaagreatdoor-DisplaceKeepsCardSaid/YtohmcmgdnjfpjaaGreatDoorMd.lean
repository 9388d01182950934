/- A part of the proof; its readable source lies in wip of the prover's repo (squeezed here for the limit of bytes). -/
import Derived.Test.YtohmcmgdnjfpjaaGreatDoorMc
import Derived.Test.YtohmcmgdnjfpjaaGreatDoorMb
import Derived.Shelf.Strings.Search3
set_option linter.all false
open Bool renaming and_eq_true->ab,true->No,false->N2
open Decidable renaming decide->Eo
open Go renaming sizeOf->kV
open Go.Shelf renaming Ren->dZ
open Go.Value.int renaming injEq->fR
open List renaming all_eq_true->aj,length_map->aI,mem_cons->aD,mem_map->aM,mem_singleton->bL,not_mem_nil->gx
open List.cons renaming injEq->cN
open Option renaming some->Q1
open Option.some renaming injEq->ah
namespace Go.Ab
open Go Go.Sort Go.Proofs Go.Shelf
variable [nO]
variable {P:Program}{α:Type}{a:α->List ar}{b:α->α->Int}{cf:List ar->List ar->Int}{cl:dr}{d:Func}{elem:TypeId}{f g:FuncId}{k l:Func}{r:List (Int×Int)}{t:TypeId}{xs:List α}{z:Nat}
def OA{b:Nat}{r:List α}(h:j6 b [] xs=Q1 r):r=xs/\(2*xs.length+1000)*b<=2^48/\xs.length<=2^62:=by unfold j6 at h;by_cases c1:(2*xs.length+1000)*b<=2^48;by_cases c2:xs.length<=2^62;simp[c1,c2]at h;exact⟨h.symm,c1,c2⟩;simp[c2]at h;simp[c1]at h
def bV3  {j:dZ} (L:Lays.n144 P j)  (hf:j.f 144=f)  (p:P.funcs[f]?=Q1 d) (k:(d.name== "runtime.NumGoroutine")=N2) (l:d.body.isNone=N2)
  {b:Nat} (q:j.g 1=b) {m:Int} (hm:nO.cell b 0=Q1 (.int .i64 m)) {x:ByteArray×ByteArray} {r:Bool} (h:strings_Contains x=Q1 r):oX P ⟨f,a6 (.cons .str (.one .str)) x,enc .bool r⟩:=by
 subst hf q;unfold strings_Contains at h;by_cases hs:x.1.size<4294967281;simp only[hs,l6,b6,ah]at h;subst h;intro σ;refine oO.Cc p k l ?_;intro G vs w a c;obtain⟨u,s,rfl,n,a⟩:=a.cons_inv;obtain⟨v,t,rfl,o,a⟩:=a.cons_inv;obtain rfl:=a.tr;cases n;cases o;have i:=c.cell (c.qE _ _ _ hm);refine(Any.strings_Contains L x.1 x.2 m w hs i).mono ?_;rintro e w' ⟨rfl,rfl⟩;exact⟨_,_,σ,G,rfl,.refl _ _ _ _,.b4 _,c,rfl,rfl⟩;simp[hs]at h
def zY{T:cy}(cb:mz P T)(h:(T t).map (λti=>(ti.isAgg,ti.size))=Q1 (No,z)):(∀w,(isAgg t).run P w=.ok No w)/\∀w,(kV t).run P w=.ok z w:=by
 cases a:T t with
 |none=>rw[a]at h;cases h
 |some ti =>rw[a]at h;simp only[Option.map_some,ah,Prod.mk.injEq]at h;exact⟨λw=>by rw[FR cb a w,h.1],λw=>by rw[rj cb a w,h.2]⟩
def F5{ts:List c9}{t:c9}(h:t.Ok (rC P ts))(hf:t.f<p9){x:t.mW.T}{r:t.nu.T}(a:t.fn x=Q1 r):oX P ⟨t.f,a6 t.mW x,enc t.nu r⟩:=by obtain⟨φ,h1,h2⟩:=h x r a;exact(FV P ts).w4 t.f φ hf h1 _ _ h2
def FK{r:α}{l:List α}(i:Nat):mO ((r::l).map a) i=a (nV r (r::l) i):=by unfold mO nV;rw[List.getElem?_map];cases(r::l)[i]?<;>rfl
def V0:∀ {xs:List α},(∀x∈xs,∀y∈xs,cf (a x) (a y)=b x y)->sk cf (xs.map a)=(oy b xs).map a
 | [],_=>rfl
 |r::l,h=>by
  have e:(λi j=>cf (mO ((r::l).map a) i) (mO ((r::l).map a) j))=λi j=>b (nV r (r::l) i) (nV r (r::l) j):=by funext i j;rw[FK,FK];exact h _ (z1 i) _ (z1 j)
  rw[Nj (by simp),e,IW,List.map_map,aI];exact List.map_congr_left λi _=>FK i
def Ra(h:∀x∈xs,∀y∈xs,cf (a x) (a y)=b x y)(hO:Ordered b xs)(c:xs.map a≠[]):SWO (ltOf (λi j=>cf (mO (xs.map a) i) (mO (xs.map a) j))):=by
 cases xs;simp at c;rename_i r l;have e:(λi j=>cf (mO ((r::l).map a) i) (mO ((r::l).map a) j))=λi j=>b (nV r (r::l) i) (nV r (r::l) j):=by funext i j;rw[FK,FK];exact h _ (z1 i) _ (z1 j)
 rw[e];exact hO
noncomputable def Dc{α:Type}(c:α->List ar)(d:α->α->Int)(a b:List ar):Int :=open Classical in if h:∃p:α×α,c p.1=a/\c p.2=b then d h.choose.1 h.choose.2 else 0
def aD2(a7:∀x y,a x=a y->x=y)(b:α->α->Int)(x y:α):Dc a b (a x) (a y)=b x y:=by have hex:∃p:α×α,a p.1=a x/\a p.2=a y:=⟨(x,y),rfl,rfl⟩;unfold Dc;rw[dif_pos hex];obtain⟨h1,h2⟩:=hex.choose_spec;rw[a7 _ _ h1,a7 _ _ h2]
def ah5{cmp:α->α->Option Int}{r:List α}(h:rE cmp xs=Q1 r):(∀x∈xs,∀y∈xs,cmp x y=Q1 ((cmp x y).getD 0))/\Ordered (λx y=>(cmp x y).getD 0) xs/\xs.length<4611686018427387904/\r=oy (λx y=>(cmp x y).getD 0) xs:=by
 obtain⟨hc,rfl⟩:=bW0 h;refine⟨λx a y b=>?_,hc.2.1,hc.2.2,rfl⟩;have:=hc.1 x a y b;cases he:cmp x y with
 |none=>rw[he]at this;cases this
 |some v=>rfl
def NL  {p:dZ} (L:SlLaysF0.n6 P p)  (hf:p.f 6=f)  (I:P.funcs[f]?=Q1 k) (q:(k.name== "runtime.NumGoroutine")=N2) (s:k.body.isNone=N2)
  {el:dr}  (hz:0<z) (u:el.len=z) (B:el.cells=No) (J:∀w,(isAgg (p.t 24)).run P w=.ok No w) (K:∀w,(kV (p.t 24)).run P w=.ok z w)
    (M:P.funcs[g]?=Q1 l) (C:(l.name== "runtime.NumGoroutine")=N2) (D:l.body.isNone=N2)  (c:cl.T)
  {cmp:el.T->el.T->Option Int} {x r:List el.T} (n:∀a∈x,∀b∈x,∀v,cmp a b=Q1 v->oX P ⟨g,[.agg (a6 el a),.agg (a6 el b)]++a6 cl c,Hq v⟩) (h:rE cmp x=Q1 r) :
  Dz P f [.rs (x.map (a6 el)),.b4 (.int .i64 z),.fn (.func g) [] (a6 cl c)] (.rs (r.map (a6 el))):=by
 obtain⟨h1,hO,N,rfl⟩:=ah5 h;intro v O rest i;simp only[cN,ar.b4.injEq,fR]at i;obtain⟨rfl,o,rfl⟩:=i;have o:O=z:=by omega
 subst o;have m:∀a∈x,∀b∈x,Dc (a6 el) (λa b=>(cmp a b).getD 0) (a6 el a) (a6 el b)=(cmp a b).getD 0:=λa _ b _=>aD2 (xE el) _ a b;refine⟨_,_,rfl,rfl,?_,?_⟩;simp only[aI];exact(tG hO).length_eq;intro σ id e restv ho Q;have hm:∀j∈x.map (a6 el),∃a∈x,j=a6 el a:=λj h=>by obtain⟨a,ha,e⟩:=aM.1 h;exact⟨a,ha,e.symm⟩
 have:=aR4 L hf I q s hz J K M C D (e:=e) (es:=x.map (a6 el)) (caps:=a6 cl c) (cf:=Dc (a6 el) (λa b=>(cmp a b).getD 0))
  (λj h=>by obtain⟨a,_,rfl⟩:=hm j h;rw[ui,u])
  (λj h d hd=>by obtain⟨a,_,rfl⟩:=hm j h;exact aj.1 (Jc B a) d hd)
  (λj h d hd=>by obtain⟨a,_,rfl⟩:=hm j h;exact aj.1 (yB el a) d hd)
  (by simpa using N)
  (λj h E h'=>by
   obtain⟨a,ha,rfl⟩:=hm j h;obtain⟨b,G,rfl⟩:=hm E h';rw[m a ha b G];exact n a ha b G _ (h1 a ha b G))
  (λH=>Ra m hO H) ho (restv:=restv) Q
 rw[V0 m]at this;exact this
def bX1  {D:dZ} (L:SlLaysF.n6 P D)  (hf:D.f 6=f)  (E:P.funcs[f]?=Q1 k) (p:(k.name== "runtime.NumGoroutine")=N2) (q:k.body.isNone=N2)
  {s:dn} (t:s.Fi=No)   (G:P.funcs[g]?=Q1 l) (u:(l.name== "runtime.NumGoroutine")=N2) (w:l.body.isNone=N2)  (c:cl.T)
  {cmp:s.T->s.T->Option Int} {x r:List s.T} (n:∀a∈x,∀b∈x,∀v,cmp a b=Q1 v->oX P ⟨g,[enc s a,enc s b]++a6 cl c,Hq v⟩) (h:rE cmp x=Q1 r) :
  Dz P f [.rs (x.map (a6 (.one s))),.b4 (.int .i64 1),.fn (.func g) [] (a6 cl c)] (.rs (r.map (a6 (.one s)))):=by
 obtain⟨h1,hO,H,rfl⟩:=ah5 h;intro v I rest i;simp only[cN,ar.b4.injEq,fR]at i;obtain⟨rfl,o,rfl⟩:=i;have o:I=1:=by omega
 subst o;have m:∀a∈x,∀b∈x,Dc (a6 (.one s)) (λa b=>(cmp a b).getD 0) (a6 (.one s) a) (a6 (.one s) b)=(cmp a b).getD 0:=λa _ b _=>aD2 (xE (.one s)) _ a b;refine⟨_,_,rfl,rfl,?_,?_⟩;simp only[aI];exact(tG hO).length_eq;intro σ id e restv ho J;have hm:∀j∈x.map (a6 (.one s)),∃a∈x,j=a6 (.one s) a:=λj h=>by obtain⟨a,ha,e⟩:=aM.1 h;exact⟨a,ha,e.symm⟩
 have:=aH6 L hf E p q G u w (e:=e) (es:=x.map (a6 (.one s))) (caps:=a6 cl c) (cf:=Dc (a6 (.one s)) (λa b=>(cmp a b).getD 0))
  (λj h=>by obtain⟨a,_,rfl⟩:=hm j h;rfl)
  (λj h d hd=>by
   obtain⟨a,_,rfl⟩:=hm j h;simp only[a6,bL]at hd;rw[hd];exact OG t a)
  (λj h d hd=>by obtain⟨a,_,rfl⟩:=hm j h;exact aj.1 (yB (.one s) a) d hd)
  (by simpa using H)
  (λj h z h'=>by
   obtain⟨a,ha,rfl⟩:=hm j h;obtain⟨b,B,rfl⟩:=hm z h';rw[m a ha b B];exact n a ha b B _ (h1 a ha b B))
  (λC=>Ra m hO C) ho (restv:=restv) J
 rw[V0 m]at this;exact this
def bV2  {q:dZ} (L:SlLaysM.n5 P q)  (hf:q.f 5=f)  (s:P.funcs[f]?=Q1 d) (k:(d.name== "runtime.NumGoroutine")=N2) (l:d.body.isNone=N2)
  {x:List Int×Int} {r:List Int} (h:C5 x=Q1 r):Dz P f (a6 (.cons (.hF (.one (.int .i64))) (.one (.int .i64))) x) (enc (.hF (.one (.int .i64))) r):=by
 unfold C5 at h;cases hc:(Eo (x.2=1)&&Eo (x.1.length<4611686018427387904))with
 |false=>rw[hc]at h;cases h
 |true=>
  rw[hc,aB3]at h;simp only[b6,ah]at h;subst h;simp only[ab,kA]at hc;intro v t rest a;simp only[a6,enc,cN,ar.b4.injEq,fR]at a;obtain⟨rfl,j,rfl⟩:=a;have j:t=1:=by omega
  subst j;refine⟨x.1.map xM,_,rfl,rfl,?_,?_⟩;simp only[aI];exact List.length_mergeSort ..;intro σ id e restv ho u;intro G vs w a c;obtain⟨B,m,rfl,z,b⟩:=a.cons_inv;have g:Rel G (σ.del id) w:=c.less rfl (λi o h=>by
   rw[bg.rK]at h;split at h;cases h;exact h)
  have n:=(u G m w b g).tr;have p:restv=[]:=by have:=b.1;rw[n]at this;exact List.length_eq_zero_iff.1 (show restv.length=0 from this.symm)
  subst p;exact aM0 L hf s k l hc.2 ho G _ w a c
def bU9(a:∀args w,(callFunc f args).run P w=((add64Entry args).run P w).andThen λv w'=>.ok (.value v) w'){x:Int×Int×Int}{r:Int×Int}(h:zJ x=Q1 r) :
  oX P ⟨f,a6 (.cons (.int .u64) (.cons (.int .u64) (.one (.int .u64)))) x,enc (.ed (.cons (.int .u64) (.one (.int .u64)))) r⟩:=by
 intro σ;unfold zJ at h;cases hc:(Eo (0<=x.1)&&Eo (0<=x.2.1)&&(Eo (x.2.2=0)||Eo (x.2.2=1)))with
 |false=>rw[hc]at h;cases h
 |true =>rw[hc]at h;simp only[b6,ah]at h;subst h;simp only[ab,Bool.or_eq_true,kA]at hc;refine(cc7 a (σ:=σ) (σ':=σ) (v:=enc (.ed (.cons (.int .u64) (.one (.int .u64)))) ((x.1+x.2.1+x.2.2)%18446744073709551616,(x.1+x.2.1+x.2.2) / 18446744073709551616)) ?_).1;show KR [.b4 (.int .u64 x.1),.b4 (.int .u64 x.2.1),.b4 (.int .u64 x.2.2)] σ=_;unfold KR;dsimp only;rw[cr ⟨hc.1.1,hc.1.2,hc.2⟩];rfl
def bH0  {T:cy} (cb:mz P T)  {fn:Func}  (hf:P.funcs[f]?=Q1 fn) (a:(fn.name== "runtime.NumGoroutine")=N2) (c:DR fn t=No) (b:fn.resultTypes.toList=[t])
  (h1:(T t).map nk.j4=Q1 (.slice elem)) (h2:(T elem).map nk.size=Q1 2) (g:(T elem).map nk.bytes=Q1 16) {x:List (Int×Int)} (h:j6 16 [] x=Q1 r) :
  uu P f (a6 (.one (.hF (.cons (.int .i64) (.one (.int .i64))))) x) (enc (.hF (.cons (.int .i64) (.one (.int .i64)))) r):=by
 obtain⟨e,i,j⟩:=OA h;exact Nb cb hf a c b h1 h2 g (by decide) (l:=.cons (.int .i64) (.one (.int .i64))) (λv=>⟨rfl,λd hd=>by
  simp only[a6,aD,gx,or_false]at hd;rcases hd with rfl|rfl<;>rfl⟩) i j e
def bH1  {T:cy} (cb:mz P T)  {fn:Func}  (hf:P.funcs[f]?=Q1 fn) (a:(fn.name== "runtime.NumGoroutine")=N2) (c:DR fn t=No) (b:fn.resultTypes.toList=[t])
  (h1:(T t).map nk.j4=Q1 (.slice elem)) (h2:(T elem).map nk.size=Q1 3) (g:(T elem).map nk.bytes=Q1 24) {x r:List (Int×Int×Int)} (h:j6 24 [] x=Q1 r) :
  uu P f (a6 (.one (.hF (.cons (.int .i64) (.cons (.int .i64) (.one (.int .i64)))))) x) (enc (.hF (.cons (.int .i64) (.cons (.int .i64) (.one (.int .i64))))) r):=by
 obtain⟨e,i,j⟩:=OA h;exact Nb cb hf a c b h1 h2 g (by decide) (l:=.cons (.int .i64) (.cons (.int .i64) (.one (.int .i64)))) (λv=>⟨rfl,λd hd=>by
  simp only[a6,aD,gx,or_false]at hd;rcases hd with rfl|rfl|rfl<;>rfl⟩) i j e
def bI7  {T:cy} (cb:mz P T)  {fn:Func}  (hf:P.funcs[f]?=Q1 fn) (a:(fn.name== "runtime.NumGoroutine")=N2) (c:DR fn t=No) (b:fn.resultTypes.toList=[t])
  (h1:(T t).map nk.j4=Q1 (.slice elem)) (h2:(T elem).map nk.size=Q1 1) (g:(T elem).map nk.bytes=Q1 8) {x r:List Int} (h:j6 8 [] x=Q1 r) :
  uu P f (a6 (.one (.hF (.one (.int .i64)))) x) (enc (.hF (.one (.int .i64))) r):=by
 obtain⟨e,i,j⟩:=OA h;exact Nb cb hf a c b h1 h2 g (by decide) (l:=.one (.int .i64)) (λv=>⟨rfl,λd hd=>by
  simp only[a6,bL]at hd;rw[hd];rfl⟩) i j e
def ca5  {n:dZ} (L:SlLaysE0.n35 P n)  (hf:n.f 35=f) {j:Func} (u:P.funcs[f]?=Q1 j) (p:(j.name== "runtime.NumGoroutine")=N2) (q:j.body.isNone=N2)
  (z:∀w,(isAgg (n.t 23)).run P w=.ok No w) (B:∀w,(kV (n.t 23)).run P w=.ok 2 w)
  {x:List (Int×Int)×Int}  (h:AJ x=Q1 r):Dz P f (a6 (.cons (.hF (.cons (.int .i64) (.one (.int .i64)))) (.one (.int .i64))) x) (enc (.hF (.cons (.int .i64) (.one (.int .i64)))) r):=by
 unfold AJ at h;cases hc:(Eo (x.2=2)&&Eo (x.1.length<4611686018427387904))with
 |false=>rw[hc]at h;cases h
 |true=>
  rw[hc]at h;simp only[b6,ah]at h;subst h;simp only[ab,kA]at hc;intro v C rest b;simp only[a6,enc,cN,ar.b4.injEq,fR,qj]at b;obtain⟨rfl,m,rfl⟩:=b;have m:C=2:=by omega
  subst m;refine⟨x.1.map (a6 (.cons (.int .i64) (.one (.int .i64)))),_,rfl,rfl,?_,?_⟩
  grind
  intro σ id e restv ho D;intro G vs w b g;obtain⟨J,k,rfl,E,c⟩:=b.cons_inv;have l:Rel G (σ.del id) w:=g.less rfl (λi o h=>by grind[bg.rK]);have H:k=[]:=(D G k w c l).tr;have s:restv=[]:=by
   have:k.length=restv.length:=c.1
   grind
  subst s;have:=aT1 L hf u p q (by decide) z B (e:=e) (es:=x.1.map (a6 (.cons (.int .i64) (.one (.int .i64)))))
   (λI h=>by obtain⟨a,_,rfl⟩:=aM.1 h;rfl)
   (λI h d hd=>by
    obtain⟨a,_,rfl⟩:=aM.1 h;simp only[a6,enc,aD,gx,or_false]at hd;rcases hd with rfl|rfl<;>rfl)
   (by simpa using hc.2) ho
  rw[<-List.map_reverse]at this;exact this G _ w b g
end Go.Ab
