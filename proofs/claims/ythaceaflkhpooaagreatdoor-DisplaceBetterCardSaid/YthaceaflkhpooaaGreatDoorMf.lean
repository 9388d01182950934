/- A part of the proof; its readable source lies in wip of the prover's repo (squeezed here for the limit of bytes). -/
import Derived.Test.YthaceaflkhpooaaGreatDoorMe
import Derived.KernelRfl
set_option linter.unusedVariables false
set_option linter.unusedSimpArgs false
set_option linter.unusedSectionVars false
namespace Go.Ab
open Go Go.Sort Go.Proofs Go.Shelf
set_option maxRecDepth 10000
namespace Dp
theorem tx0(ns:List Nd)(ars:List Ar)(fs:List Int)(id:Int)(hl:ns.length<2^62):E6 ((ns,ars,fs),id)=some (match F4 ns id with | some n=>(n,true) | none=>((0,0,0),false)):=by
 unfold E6
 refine p8 (A:=Unit) ns (fun i _=>(i:Int)) (fun _ rest=>some (match F4 rest id with | some n=>(n,true) | none=>((0,0,0),false))) (by omega) ?_ ?_ ()
 ·intro rec a
  simp only[y4,cond_false,F4,List.find?_nil]
 ·intro rec i a x rest hi hd hr
  have:=hr ()
  simp only[y0 hi,cond_true,l8 hd,b9,r7 hi hl,this,F4,List.find?_cons]
  by_cases e:x.1=id
  ·rw[decide_eq_true e];rfl
  ·rw[decide_eq_false e];rfl
theorem ph0(ns:List Nd)(ars:List Ar)(fs:List Int):∃ b,G6 (ns,ars,fs)=some b:=by
 unfold G6
 refine kW0 ⟨_,rfl⟩ ?_
 by_cases h:(40:Int)<(ars.length:Int)
 ·simp only[decide_eq_true h,cond_true];exact⟨_,rfl⟩
 ·simp only[decide_eq_false h,cond_false]
  refine kW0 ⟨_,rfl⟩ ?_
  let g:Int->List Ar->Bool:=fun a rest=>rest.foldr (fun x (k:Int->Bool) a=>bif decide ((300:Int)<(x.2.2.2.1.length:Int))then false else k (IntKind.i64.wrap (a+(x.2.2.2.1.length:Int)))) (fun a=>decide (a<=300)) a
  refine⟨g 0 ars,p8 (A:=Int) ars (fun i a=>(a,(i:Int))) (fun a rest=>some (g a rest)) (by omega) ?_ ?_ 0⟩
  ·intro rec a
   simp only[y4,cond_false]
   rfl
  ·intro rec i a x rest hi hd hr
   simp only[y0 hi,cond_true,l8 hd,b9,r7 hi (show ars.length<2^62 by omega)]
   rw[hr]
   show _=some (bif decide ((300:Int)<(x.2.2.2.1.length:Int))then false else g (IntKind.i64.wrap (a+(x.2.2.2.1.length:Int))) rest)
   cases decide ((300:Int)<(x.2.2.2.1.length:Int))<;>rfl
theorem tK0(ns:List Nd)(ars:List Ar)(fs:List Int)(l:List Ft):∃ b,G7 (ns,ars,fs,l)=some b:=by
 unfold G7
 obtain⟨b,hb⟩:=ph0 ns ars fs
 simp only[hb,b9]
 refine kW0 ⟨_,rfl⟩ ?_
 by_cases h:(20:Int)<(l.length:Int)
 ·simp only[decide_eq_true h,cond_true];exact⟨_,rfl⟩
 ·simp only[decide_eq_false h,cond_false]
  refine⟨l.all (fun x=>(!decide ((70:Int)<(x.2.2.2.2.length:Int)))&&!decide ((200:Int)<(x.2.2.2.1.size:Int))),p8 (A:=Unit) l (fun i _=>(i:Int)) (fun _ rest=>some (rest.all (fun x=>(!decide ((70:Int)<(x.2.2.2.2.length:Int)))&&!decide ((200:Int)<(x.2.2.2.1.size:Int))))) (by omega) ?_ ?_ ()⟩
  ·intro rec a
   simp only[y4,cond_false,List.all_nil]
  ·intro rec i a x rest hi hd hr
   have:=hr ()
   simp only[y0 hi,cond_true,l8 hd,b9,r7 hi (show l.length<2^62 by omega),this,List.all_cons]
   cases decide ((70:Int)<(x.2.2.2.2.length:Int))<;>cases decide ((200:Int)<(x.2.2.2.1.size:Int))<;>rfl
theorem tf0{ns:List Nd}{ars:List Ar}{fs:List Int}{l:List Ft}(h0:G9 ns ars fs l=0){gap:Int}(g0:0<=gap)(g1:gap<=64) :
  ∃ fin,D3 ((ns,ars,fs,l),gap)=some ((fin,ars,fs,l),0)/\∀ n∈ns,∃ c was is,E6 ((fin,ars,fs),n.1)=some (c,true) /\
   A6 ((ns,ars,fs,l),n.1,pt n,gap)=some was/\A6 ((fin,ars,fs,l),n.1,pt c,gap)=some is /\
   (was=true->pt c=pt n/\is=true)/\(pt c≠pt n->is=true):=by
 have h:=iO0 h0
 have hD:=mH0 h h0 g0 g1
 have hnd:=ho0 h.pl
 have hrun:=nd0 (segs:=Q3 ns ars ars) (ols:=ja0 ns ars fs) (offs:=it0 gap.toNat) (gap:=gap) (mov:=pL0 ars l) (fun o ho=>by have:=nL0 ho;omega) g0 ns ns
 generalize hQ0 (Q3 ns ars ars) (ja0 ns ars fs) (it0 gap.toNat) gap (pL0 ars l) ns ns=fin at hD hrun
 refine⟨fin,hD,?_⟩
 obtain⟨D,inv⟩:=Inv.run hnd ns [] ns fin (fun _ h=>h) hnd (fun _ _ h=>by simp at h) (Inv.start (pts_ne h.pl)) hrun
 have hmv:mvd ars ns fin:=ut0 (mov:=fun n=>pL0 ars l n.1) (fun n _ hm=>by
  unfold pL0 at hm
  rw[Bool.and_eq_true]at hm
  exact of_decide_eq_true hm.1) hnd (fun _ h=>h) inv.ids inv.deg
 have hpos:∀ n∈fin,U7 (n.2.1,n.2.2)=true:=fun n hn=>by
  by_cases hm:n∈ns
  ·exact h.pl.nodePos hm
  ·exact(inv.b n hn hm).1
 have hfn:(fin.map (·.1)).Nodup:=by rw[inv.ids];exact hnd
 have hdup:lK0 [] fin=false:=qj0 (s:=ns) [] fin (by simpa using inv.p) (by simpa using hfn)
 have hf0:G9 fin ars fs l=0:=wK0 h0 h.pl hmv hpos hdup (fun r hr s hs n hn hd=>by
  by_cases hm:n∈ns
  ·exact tX0 h.pl hr hs hm hd
  ·obtain⟨_,ho,_⟩:=inv.b n hn hm
   obtain⟨g,hg,e1,e2⟩:=seg_of h.pl hr hs
   have hh:kg0 gap (pt n) g=false:=by
    cases hx:kg0 gap (pt n) g with
    | false=>rfl
    | true=>rw[List.any_eq_true.2 ⟨g,hg,hx⟩]at ho;cases ho
   cases hx:onP (sgA s) (sgB s) (n.2.1,n.2.2)with
   | false=>rfl
   | true =>
    rw[<- e1,<-e2]at hx
    have hn:N5 gap (pt n) g=true:=by
     unfold onP wf0 at hx
     simp only[Bool.and_eq_true,decide_eq_true_eq,sA,sB]at hx
     unfold N5 pt
     simp only[Bool.and_eq_true,decide_eq_true_eq]
     obtain⟨_,_,q1,q2,q3,q4⟩:=hx
     have q1:=of_decide_eq_true q1
     have q2:=of_decide_eq_true q2
     have q3:=of_decide_eq_true q3
     have q4:=of_decide_eq_true q4
     omega
    unfold kg0 at hh
    rw[hn,show onP (sA g) (sB g) (pt n)=true from hx]at hh
    simp at hh)
 have h':=iO0 hf0
 have es:Q3 fin ars ars=Q3 ns ars ars:=sD0 hmv _
 have eo:ja0 fin ars fs=ja0 ns ars fs:=vB0 hmv fs
 intro n hn
 obtain⟨c,hc,hci⟩:∃ c∈fin,c.1=n.1:=by
  have:n.1∈fin.map (·.1):=by rw[inv.ids];exact List.mem_map_of_mem hn
  obtain⟨c,hc,e⟩:=List.mem_map.1 this
  exact⟨c,hc,e⟩
 have hno:F4 fin n.1=some c:=by rw[<- hci];exact h'.pl.nodeOf_self hc
 have hln:=h'.pl.lenN
 have c1:=jV0 h h0 g0 g1 n.1 (pt n)
 have c2:=jV0 h' hf0 g0 g1 n.1 (pt c)
 rw[h.pl.nodeOf_self hn]at c1
 rw[hno,es,eo]at c2
 have hr:=tx0 fin ars fs n.1 (by omega)
 rw[hno]at hr
 refine⟨c,_,_,hr,c1,c2,?_⟩
 obtain⟨b1,b2⟩:=inv.better hnd hn hc hci
 by_cases hd:0<I4 ars n.1
 ·have e:=ev0 (id:=n.1) (by omega) hmv
  rw[hno,h.pl.nodeOf_self hn]at e
  have e:=Option.some.inj e
  subst e
  simp only[decide_eq_true hd,cond_true]
  exact⟨fun h=>by simp at h,fun h=>absurd rfl h⟩
 ·simp only[decide_eq_false hd,cond_false]
  rw[hci]
  refine⟨fun hw=>?_,fun hne=>eu0.2 (b2 hne)⟩
  obtain⟨e,hf⟩:=b1 (eu0.1 hw)
  exact⟨by rw[e],eu0.2 hf⟩
theorem ro0(haw:A8 ()=some true)(ns:List Nd)(ars:List Ar)(fs:List Int)(l:List Ft)(gap:Int):y9 ((ns,ars,fs,l),gap)=some true:=by
 unfold y9
 obtain⟨b,hb⟩:=tK0 ns ars fs l
 simp only[hb,haw,b9]
 cases b with
 | false=>rfl
 | true =>
  simp only[Bool.not_true,cond_false]
  by_cases h6:6<gap
  ·simp only[decide_eq_true h6,cond_true]
  ·simp only[decide_eq_false h6,cond_false]
   by_cases hc:G9 ns ars fs l=0/\0<=gap
   ·obtain⟨h0,g0⟩:=hc
    obtain⟨fin,hD,hcore⟩:=tf0 h0 g0 (show gap<=64 by omega)
    have hln:=(iO0 h0).pl.lenN
    simp only[hD,b9,decide_true,Bool.not_true,cond_false]
    refine p8 (A:=Unit) ns (fun i _=>(i:Int)) (fun _ _=>some true) (by omega) ?_ ?_ ()
    ·intro rec a
     simp only[y4,cond_false]
    ·intro rec i a x rest hi hd hr
     have hxm:x∈ns:=by
      have:x∈ns.drop i:=by rw[hd];simp
      exact List.mem_of_mem_drop this
     obtain⟨c,was,is,e1,e2,e3,k1,k2⟩:=hcore x hxm
     have e2':A6 ((ns,ars,fs,l),x.1,(x.2.1,x.2.2),gap)=some was:=e2
     have e3':A6 ((fin,ars,fs,l),x.1,(c.2.1,c.2.2),gap)=some is:=e3
     have:=hr ()
     have hpe:(decide (c.2.1=x.2.1)&&decide (c.2.2=x.2.2))=decide (pt c=pt x):=by
      unfold pt
      by_cases h1:c.2.1=x.2.1<;>by_cases h2:c.2.2=x.2.2<;>simp[h1,h2]
     simp only[y0 hi,cond_true,l8 hd,b9,e1,e2',e3',r7 hi (show ns.length<2^62 by omega),this,hpe,Bool.not_true,cond_false]
     by_cases hp:pt c=pt x
     ·cases was with
      | false=>simp[hp]
      | true=>simp[hp,(k1 rfl).2]
     ·have hi2:=k2 hp
      cases was with
      | false=>simp[hp,hi2]
      | true=>exact absurd (k1 rfl).1 hp
   ·obtain⟨s,e,hD,he⟩:=kh0 (ns:=ns) (ars:=ars) (fs:=fs) (l:=l) (gap:=gap) (by
     by_cases q:G9 ns ars fs l=0
     ·exact Or.inr fun g=>hc ⟨q,g.1⟩
     ·exact Or.inl q)
    simp only[hD,b9,decide_eq_false he,Bool.not_false,cond_true]
end Dp
end Go.Ab
namespace Go.Ab
open Go Go.Sort Go.Proofs Go.Shelf
set_option maxRecDepth 100000
namespace Dp
def hV0(a b p:Pt):Int:=(b.1-a.1)*(p.1-a.1)+(b.2-a.2)*(p.2-a.2)
def sqP(a b:Pt):Int:=(b.1-a.1)*(b.1-a.1)+(b.2-a.2)*(b.2-a.2)
def lE0(a b p:Pt):Int:=bif decide (hV0 a b p<=0)then sqP a p else bif decide (sqP a b<=hV0 a b p)then sqP b p else T4 a b p*T4 a b p / sqP a b
def smB(a b p:Pt):Bool:=[a,b,p].all fun q=>decide (-20<=q.1)&&(decide (q.1<=20)&&(decide (-20<=q.2)&&decide (q.2<=20)))
noncomputable def xu0(n:Int):Bool:=decide (0<=n)&&(decide (n<=1000000)&&decide (P0 (n,1)=some (0,n)))
noncomputable def okC(a b p:Pt):Bool:=smB a b p&&(xu0 (lE0 a b p)&&(decide (hV0 a b p<=0)||(decide (sqP a b<=hV0 a b p) ||
 ((decide (sqP a b=100)||decide (sqP a b=16))&&(decide (ai0 (T4 a b p,T4 a b p,sqP a b)=some (lE0 a b p,0))&&decide (T4 a b p*T4 a b p=lE0 a b p*sqP a b))))))
theorem gcd0{L:Int}(h:L=100\/L=16):dG0 (0,L)=some L:=by
 have d:O4 (0,L)=some L:=by
  rcases h with rfl | rfl
  ·exact bE0 0 100 (by decide)
  ·exact bE0 0 16 (by decide)
 have s0:F8 0=some 0:=by kernel_rfl
 have s1:F8 L=some L:=by rcases h with rfl | rfl<;>kernel_rfl
 have s2:K4 (L,false)=some (L,true):=by rcases h with rfl | rfl<;>kernel_rfl
 unfold dG0
 simp only[s0,s1,d,s2,b9]
theorem tB0{a b p:Pt}(h:okC a b p=true):P8 (a,b,p)=some (lE0 a b p,1):=by
 unfold okC at h
 rw[Bool.and_eq_true,Bool.and_eq_true]at h
 obtain⟨h1,h2,h3⟩:=h
 unfold xu0 at h2
 simp only[Bool.and_eq_true,decide_eq_true_eq]at h2
 obtain⟨m1,m2,m3⟩:=h2
 unfold smB at h1
 simp only[List.all_cons,List.all_nil,Bool.and_true,Bool.and_eq_true,decide_eq_true_eq]at h1
 obtain⟨ha,hb,hp⟩:=h1
 have na:C4 a=true:=(X6 a).2 (by omega)
 have nb:C4 b=true:=(X6 b).2 (by omega)
 have np:C4 p=true:=(X6 p).2 (by omega)
 have e0:J9 [(a.1,a.2),(b.1,b.2),(p.1,p.2)]=some true:=by rw[rK0,na,nb,np];rfl
 have b1:=Q4 (A:=40) (a:=b.1-a.1) (b:=p.1-a.1) (by omega) (by omega) (by omega) (by omega)
 have b2:=Q4 (A:=40) (a:=b.2-a.2) (b:=p.2-a.2) (by omega) (by omega) (by omega) (by omega)
 have e1:E8 ((a.1,a.2),(b.1,b.2))=some (sqP a b):=(bH0 na nb).1
 have e2:E8 ((a.1,a.2),(p.1,p.2))=some (sqP a p):=(bH0 na np).1
 have e3:E8 ((b.1,b.2),(p.1,p.2))=some (sqP b p):=(bH0 nb np).1
 have w1:IntKind.i64.wrap (b.1-a.1)=b.1-a.1:=w64 (by omega) (by omega)
 have w2:IntKind.i64.wrap (p.1-a.1)=p.1-a.1:=w64 (by omega) (by omega)
 have w3:IntKind.i64.wrap ((b.1-a.1)*(p.1-a.1))=(b.1-a.1)*(p.1-a.1):=w64 (by omega) (by omega)
 have w4:IntKind.i64.wrap (b.2-a.2)=b.2-a.2:=w64 (by omega) (by omega)
 have w5:IntKind.i64.wrap (p.2-a.2)=p.2-a.2:=w64 (by omega) (by omega)
 have w6:IntKind.i64.wrap ((b.2-a.2)*(p.2-a.2))=(b.2-a.2)*(p.2-a.2):=w64 (by omega) (by omega)
 have w7:IntKind.i64.wrap ((b.1-a.1)*(p.1-a.1)+(b.2-a.2)*(p.2-a.2))=hV0 a b p:=w64 (by omega) (by omega)
 unfold P8
 simp only[e0,b9,Bool.not_true,cond_false,e1,e2,e3,w1,w2,w3,w4,w5,w6,w7]
 unfold lE0 at *
 cases c1:decide (hV0 a b p<=0)with
 | true=>rfl
 | false =>
  rw[cond_false,cond_false]
  cases c2:decide (sqP a b<=hV0 a b p)with
  | true=>rfl
  | false =>
   rw[cond_false,cond_false]
   rw[c1,c2]at h3 m1 m2 m3
   simp only[cond_false,Bool.false_or,Bool.and_eq_true,Bool.or_eq_true,decide_eq_true_eq]at h3 m1 m2 m3
   obtain⟨hL,hM,hr⟩:=h3
   have e4:K1 ((a.1,a.2),(b.1,b.2),(p.1,p.2))=some (T4 a b p):=T5 a b p na nb np
   generalize T4 a b p*T4 a b p / sqP a b=w at hM hr m1 m2 m3 ⊢
   have hLb:0<sqP a b/\sqP a b<=100:=by omega
   have hw:w*sqP a b<=1000000*100:=Int.mul_le_mul m2 hLb.2 (by omega) (by omega)
   have hw0:0<=w*sqP a b:=Int.mul_nonneg m1 (by omega)
   have x1:IntKind.i64.wrap (T4 a b p*T4 a b p)=w*sqP a b:=by rw[hr,w64 (by omega) (by omega)]
   have x2:IntKind.i64.wrap (w*sqP a b)=w*sqP a b:=w64 (by omega) (by omega)
   have x3:IntKind.i64.wrap (w*sqP a b-w*sqP a b)=0:=by rw[Int.sub_self];rfl
   have x4:IntKind.u64.wrap w=w:=by rw[IntKind.wrap_u64];omega
   have x5:decide (sqP a b=0)=false:=decide_eq_false (by omega)
   have x6:IntKind.i64.wrap ((sqP a b).tdiv (sqP a b))=1:=by rw[Int.tdiv_self (by omega)];rfl
   have x7:IntKind.i64.wrap ((0:Int).tdiv (sqP a b))=0:=by rw[Int.zero_tdiv];rfl
   have x8:IntKind.u64.wrap 1=1:=rfl
   have x9:IntKind.u64.wrap 0=0:=rfl
   have x10:bits_Add64 (w,0,0)=some (w,0):=by
    unfold bits_Add64
    have:decide (0<=w)=true:=decide_eq_true m1
    simp only[this,decide_true,Bool.true_or,Bool.and_self,cond_true]
    have q1:(w+0+0)%18446744073709551616=w:=by omega
    have q2:(w+0+0) / 18446744073709551616=0:=by omega
    rw[q1,q2]
    rfl
   have x11:decide ((9223372036854775807:Int)<w)=false:=decide_eq_false (by omega)
   have x12:IntKind.i64.wrap w=w:=w64 (by omega) (by omega)
   have x13:decide ((0:Int)<IntKind.u64.wrap (0+0))=false:=rfl
   simp only[e4,hM,x1,x2,x3,gcd0 hL,x4,x5,x6,x7,x8,x9,m3,x10,x11,x12,x13,b9,cond_false]
theorem uL0{n:Int}(h0:0<=n)(h1:n<=1000000):X9 (n,1)=some true:=by
 obtain⟨a,ea,a1,a2,a3⟩:=R2 n
 have a3:=a3 (by omega) (by omega)
 obtain⟨m,rfl⟩:=Int.eq_ofNat_of_zero_le h0
 have e1:F8 1=some 1:=by kernel_rfl
 have e2:a=(m:Int):=by rw[a3];rfl
 have d:O4 ((m:Int),1)=some ((Nat.gcd m 1:Nat):Int):=bE0 m 1 (by decide)
 unfold X9
 subst e2
 simp only[ea,e1,d,b9,Nat.gcd_one_right]
 rfl
theorem wJ0{n m:Int}(hn:xu0 n=true)(hm:xu0 m=true):∃ c,Z5 ((n,1),(m,1))=some c/\(c<0↔n<m):=by
 unfold xu0 at hn hm
 simp only[Bool.and_eq_true,decide_eq_true_eq]at hn hm
 obtain⟨n1,n2,n3⟩:=hn
 obtain⟨m1,m2,m3⟩:=hm
 obtain⟨a,ea,_,_,a3⟩:=R2 n
 obtain⟨b,eb,_,_,b3⟩:=R2 m
 have a3:a=n:=by rw[a3 (by omega) (by omega)];omega
 have b3:b=m:=by rw[b3 (by omega) (by omega)];omega
 subst a3
 subst b3
 have e1:F8 1=some 1:=by kernel_rfl
 have c1:decide (a<0)=false:=decide_eq_false (by omega)
 have c2:decide (b<0)=false:=decide_eq_false (by omega)
 unfold Z5
 simp only[uL0 n1 n2,uL0 m1 m2,ea,eb,e1,n3,m3,c1,c2,b9,Bool.not_true,cond_false,beq_self_eq_true,decide_true,cond_true]
 by_cases h:a=b
 ·subst h
  simp only[decide_true,cond_true]
  exact⟨_,rfl,by omega⟩
 ·by_cases h2:b<a
  ·simp only[decide_eq_false h,decide_eq_true h2,show decide ((0:Int)<0)=false from rfl,cond_true,cond_false]
   exact⟨_,rfl,by omega⟩
  ·simp only[decide_eq_false h,decide_eq_false h2,show decide ((0:Int)<0)=false from rfl,cond_true,cond_false]
   exact⟨_,rfl,by omega⟩
def hitC(gap:Int)(q:Pt)(g:Seg):Bool:=N5 gap q g&&(onP (sA g) (sB g) q||decide (lE0 (sA g) (sB g) q<gap*gap))
noncomputable def okQ(gap:Int)(segs:List Seg)(q:Pt):Bool:=xu0 (gap*gap)&&segs.all fun g=>!N5 gap q g||okC (sA g) (sB g) q
theorem xc0{gap:Int}{segs:List Seg}{q:Pt}(h:okQ gap segs q=true):∀ g∈segs,kg0 gap q g=hitC gap q g:=by
 unfold okQ at h
 rw[Bool.and_eq_true]at h
 intro g hg
 have:=List.all_eq_true.1 h.2 g hg
 unfold kg0 hitC
 cases hn:N5 gap q g with
 | false=>rfl
 | true =>
  rw[hn]at this
  have ho:okC (sA g) (sB g) q=true:=this
  have hm:xu0 (lE0 (sA g) (sB g) q)=true:=by
   unfold okC at ho
   rw[Bool.and_eq_true,Bool.and_eq_true]at ho
   exact ho.2.1
  obtain⟨c,e,hc⟩:=wJ0 hm h.1
  have:cmpD gap q g=c:=by
   unfold cmpD
   rw[tB0 ho]
   show (Z5 ((lE0 (sA g) (sB g) q,1),(gap*gap,1))).getD 0=c
   rw[e];rfl
  rw[this,decide_eq_decide.2 hc]
def re0(segs:List Seg)(ols:List Ol)(cur:List Nd)(id:Int)(p0 q:Pt)(gap:Int):Bool :=
 bif U7 q then (bif cur.any (dm0 (gap*gap) id q)then false else bif segs.any (hitC gap q)then false else decide (dF0 q ols=dF0 p0 ols))else false
theorem any_eq{α:Type}{f g:α->Bool}:∀ {l:List α},(∀ x∈l,f x=g x)->l.any f=l.any g
 | [],_=>rfl
 | x::l,h=>by rw[List.any_cons,List.any_cons,h x (by simp),any_eq fun y hy=>h y (by simp[hy])]
theorem jt0{segs:List Seg}{ols:List Ol}{cur:List Nd}{id gap:Int}{p0 q:Pt}(h:okQ gap segs q=true):Z1 segs ols cur id p0 q gap=re0 segs ols cur id p0 q gap:=by
 unfold Z1 re0
 rw[any_eq (xc0 h)]
def vF0(segs:List Seg)(ols:List Ol)(offs:List Pt)(gap:Int)(cur:List Nd)(n:Nd):Option Pt :=
 bif re0 (segs.filter (N5 (2*gap) (pt n))) ols cur n.1 (pt n) (pt n) gap then none
 else (offs.find? (fun o=>re0 (segs.filter (N5 (2*gap) (pt n))) ols cur n.1 (pt n) (n.2.1+o.1,n.2.2+o.2) gap)).map fun o=>(n.2.1+o.1,n.2.2+o.2)
theorem find_eq{α:Type}{f g:α->Bool}:∀ {l:List α},(∀ x∈l,f x=g x)->l.find? f=l.find? g
 | [],_=>rfl
 | x::l,h=>by rw[List.find?_cons,List.find?_cons,h x (by simp),find_eq fun y hy=>h y (by simp[hy])]
theorem sO0{segs:List Seg}{ols:List Ol}{offs:List Pt}{gap:Int}{cur:List Nd}{n:Nd}(h:okQ gap (segs.filter (N5 (2*gap) (pt n))) (pt n)=true)
  (h2:(offs.all fun o=>okQ gap (segs.filter (N5 (2*gap) (pt n))) (n.2.1+o.1,n.2.2+o.2))=true):fF0 segs ols offs gap cur n=vF0 segs ols offs gap cur n:=by
 unfold fF0 vF0
 rw[jt0 h,find_eq fun o ho=>jt0 (List.all_eq_true.1 h2 o ho)]
end Dp
end Go.Ab
namespace Go.Ab
open Go Go.Sort Go.Proofs Go.Shelf
set_option maxRecDepth 100000
namespace Dp
def sq(s:Int):List Ar:=[(1,1,1,[(s,0),(s,s),(0,s)],1,0)]
def nd(x y:Int):List Nd:=[(1,0,0),(2,x,y)]
def ft:List Ft:=[(7,1,1,ByteArray.mk #[],[2])]
theorem ms2:([1,-1]:List Int).mergeSort (fun a b=>decide (a<=b))=[-1,1]:=by simp[List.mergeSort,List.merge]
structure SqOk(x y s t:Int):Prop where
 fe:G9 (nd x y) (sq s) [1] ft=0
 ol:ja0 (nd x y) (sq s) [1]=[(1,t,[(0,0),(s,0),(s,s),(0,s)])]
 sg:Q3 (nd x y) (sq s) (sq s)=[(0,0,s,0),(s,0,s,s),(s,s,0,s),(0,s,0,0)]
theorem xA0{x y s t:Int}(h1:O7.dartsL (nd x y) (sq s)=[1,-1])(h2:T0 (O7.nextD (nd x y) (sq s)) [1,-1] [-1,1] [] []=[[-1],[1]])
  (h3:N1 (nd x y) (sq s) (D1 (nd x y) (sq s)) [[-1],[1]]=[(0,[],[[-1]],[]),(t,[1],[],[2])])
  (h4:(bif decide (L5 (nd x y) (sq s) [1]=0)then (bif (L1 (sq s) 1 true [(0,[],[[-1]],[]),(t,[1],[],[2])] [] []).2 then 0 else 12)else L5 (nd x y) (sq s) [1])=0)
  (h5:(ft.any (fun f=>f.2.2.2.2.any (fP0 (nd x y) (sq s) [1] f.2.1)))=false)
  (h6:U8 uW0 (pH0 (nd x y) (sq s) (U8 sN0 (mQ0 (L1 (sq s) 1 true [(0,[],[[-1]],[]),(t,[1],[],[2])] [] []).1 [(0,[],[[-1]],[]),(t,[1],[],[2])])))=[(1,t,[(0,0),(s,0),(s,s),(0,s)])])
  (h7:Q3 (nd x y) (sq s) (sq s)=[(0,0,s,0),(s,0,s,s),(s,s,0,s),(0,s,0,0)]):SqOk x y s t:=by
 have cy:O7.cyclesOf (nd x y) (sq s)=[[-1],[1]]:=by
  unfold O7.cyclesOf
  rw[h1,ms2]
  exact h2
 have ar:H3 (nd x y) (sq s)=[(0,[],[[-1]],[]),(t,[1],[],[2])]:=by
  unfold H3
  rw[cy]
  exact h3
 have rg:E5 (nd x y) (sq s) [1]=0:=by
  unfold E5
  rw[show N1 (nd x y) (sq s) (D1 (nd x y) (sq s)) (O7.cyclesOf (nd x y) (sq s))=_ from ar]
  exact h4
 refine⟨?_,?_,h7⟩
 ·unfold G9
  rw[rg,h5]
  kernel_rfl
 ·unfold ja0 hC0 aM0
  rw[ar]
  exact h6
theorem sq10:SqOk 5 1 10 200:=xA0 (by kernel_rfl) (by kernel_rfl) (by kernel_rfl) (by kernel_rfl) (by kernel_rfl) (by kernel_rfl) (by kernel_rfl)
theorem wT0:SqOk 3 3 10 200:=xA0 (by kernel_rfl) (by kernel_rfl) (by kernel_rfl) (by kernel_rfl) (by kernel_rfl) (by kernel_rfl) (by kernel_rfl)
theorem sq4:SqOk 2 1 4 32:=xA0 (by kernel_rfl) (by kernel_rfl) (by kernel_rfl) (by kernel_rfl) (by kernel_rfl) (by kernel_rfl) (by kernel_rfl)
theorem rp0{x y s t:Int}(h:SqOk x y s t){r:Option Pt}(h1:okQ 3 ((Q3 (nd x y) (sq s) (sq s)).filter (N5 6 (x,y))) (x,y)=true)
  (h2:((it0 3).all fun o=>okQ 3 ((Q3 (nd x y) (sq s) (sq s)).filter (N5 6 (x,y))) (x+o.1,y+o.2))=true)
  (h3:vF0 (Q3 (nd x y) (sq s) (sq s)) [(1,t,[(0,0),(s,0),(s,s),(0,s)])] (it0 3) 3 (nd x y) (2,x,y)=r) (hm:pL0 (sq s) ft 2=true) :
  C5 ((nd x y,sq s,[1],ft),2,3)=some (match r with | some p=>(([(1,0,0),(2,p.1,p.2)],sq s,[1],ft),true,0) | none=>((nd x y,sq s,[1],ft),false,0)):=by
 have:=xE0 (iO0 h.fe) h.fe (gap:=3) (by decide) (by decide) (n:=(2,x,y)) (by simp[nd]) hm
 have e:fF0 (Q3 (nd x y) (sq s) (sq s)) (ja0 (nd x y) (sq s) [1]) (it0 (Int.toNat 3)) 3 (nd x y) (2,x,y)=r:=by
  rw[h.ol,<-h3]
  exact sO0 h1 h2
 rw[e]at this
 rw[this]
 cases r<;>rfl
theorem step1:C5 ((nd 5 1,sq 10,[1],ft),2,3)=some ((nd 3 3,sq 10,[1],ft),true,0):=rp0 sq10 (r:=some (3,3)) (by kernel_rfl) (by kernel_rfl) (by kernel_rfl) (by kernel_rfl)
theorem step2:C5 ((nd 2 1,sq 4,[1],ft),2,3)=some ((nd 2 1,sq 4,[1],ft),false,0):=rp0 sq4 (r:=none) (by kernel_rfl) (by kernel_rfl) (by kernel_rfl) (by kernel_rfl)
theorem step3:∃ s,C5 ((nd 2 1,sq 4,[1],ft),1,3)=some (s,false,13):=tt0 (iO0 sq4.fe) sq4.fe (gap:=3) (by decide) (by decide) (n:=(1,0,0)) (by simp[nd]) (by kernel_rfl)
theorem nO0(p:Pt){b:Bool}(h1:okQ 3 (Q3 (nd 3 3) (sq 10) (sq 10)) p=true)(h2:re0 (Q3 (nd 3 3) (sq 10) (sq 10)) [(1,200,[(0,0),(10,0),(10,10),(0,10)])] (nd 3 3) 2 (3,3) p 3=b) :
  A6 ((nd 3 3,sq 10,[1],ft),2,p,3)=some b:=by
 have:=jV0 (iO0 wT0.fe) wT0.fe (gap:=3) (by decide) (by decide) 2 p
 have e:F4 (nd 3 3) 2=some (2,3,3):=by kernel_rfl
 have e2:decide (0<I4 (sq 10) 2)=false:=by kernel_rfl
 rw[e,wT0.ol]at this
 rw[this,<-h2,<-jt0 h1]
 simp only[e2,cond_false]
 rfl
theorem clear1:A6 ((nd 3 3,sq 10,[1],ft),2,(5,5),3)=some true:=nO0 (5,5) (by kernel_rfl) (by kernel_rfl)
theorem clear2:A6 ((nd 3 3,sq 10,[1],ft),2,(5,2),3)=some false:=nO0 (5,2) (by kernel_rfl) (by kernel_rfl)
theorem oY0:A8 ()=some true:=by
 have s1:C0 (10,(5,1))=some (nd 5 1,sq 10,[1],ft):=rfl
 have s2:C0 (4,(2,1))=some (nd 2 1,sq 4,[1],ft):=rfl
 obtain⟨z,hz⟩:=step3
 have o1:A9 1=some (it0 1,0):=cU0 (by decide) (by decide)
 have o2:A9 65=some ([],2):=gt0 (by decide)
 have l1:it0 1=[(-1,-1),(0,-1),(1,-1),(-1,0),(1,0),(-1,1),(0,1),(1,1)]:=by kernel_rfl
 unfold A8
 simp only[s1,s2,step1,step2,hz,o1,o2,l1,b9,clear1,clear2]
 rfl
theorem DisplaceBetter_eq(ns:List Nd)(ars:List Ar)(fs:List Int)(l:List Ft)(gap:Int):y9 ((ns,ars,fs,l),gap)=some true:=ro0 oY0 ns ars fs l gap
end Dp
end Go.Ab
