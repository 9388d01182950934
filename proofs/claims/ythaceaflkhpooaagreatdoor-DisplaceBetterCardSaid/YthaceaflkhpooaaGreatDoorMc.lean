/- A part of the proof; its readable source lies in wip of the prover's repo (squeezed here for the limit of bytes). -/
import Derived.Test.YthaceaflkhpooaaGreatDoorMb
import Derived.IntWalk
import Derived.Carry
import Derived.ChangeSame
set_option linter.unusedVariables false
set_option linter.unusedSimpArgs false
set_option linter.unusedSectionVars false
namespace Go.Ab
open Go
variable [B0]
theorem xb0{θ:Nat->AV}(hθ:Fit θ){v:AV}(h:fitB v=true):aH0 (v.sub θ):=by
 unfold fitB at h
 split at h
 ·simp[aH0]
 ·simp[aH0]
 ·simp[aH0]
 ·rw[u5];exact hθ _
 ·rename_i es
  simp only[AV.sub,aH0,AV.pur]
  exact gv0 hθ es h
 ·rename_i cs
  simp only[AV.sub,aH0,AV.pur]
  exact Q5 hθ cs h
 ·rename_i c
  simp only[AV.sub,aH0,AV.pur]
  exact bm0 hθ c h
 ·cases h
theorem RVr.map{ι:fM0}{θ:Nat->AV}{a b:List (List AV)}(h:RVr ι (dp0 θ a) (dp0 θ b)):RVr ι (a.map (List.map (AV.sub θ))) (b.map (List.map (AV.sub θ))):=by
 rw[<- bc0,<-bc0];exact h
theorem dB0{ι:fM0}{c:AV}(hf:aH0 c):fQ0 ι (P3 c) (P3 c):=by
 refine⟨rfl,rfl,rfl,fun i hi hi'=>⟨rfl,?_,rfl⟩⟩
 intro G u hr
 have hi1:i<(rowsOf c).length:=by rw[F2]at hi;exact hi
 refine O5 (G:=G) (G':=G.ren ι) (fun _ _ hh=>hh) hr ?_
 rw[Y2 _ _ _ hi hi1]
 rcases hf.cases with ⟨k,n,e⟩ | ⟨b',e⟩ | ⟨x,e⟩ | ⟨es,e⟩ | ⟨cs,e⟩ | ⟨c2,e⟩
 rotate_right
 ·simp[e,rowsOf]at hi1
 rotate_right
 ·simp[e,rowsOf]at hi1
 ·simp[e,rowsOf]at hi1
 ·simp[e,rowsOf]at hi1
 ·simp[e,rowsOf]at hi1
 ·subst e
  have hp:=hf.pur
  have hi2:i<es.length:=hi1
  have hrow:=V2 hp i hi2
  show (D5 (0+i) es[i]).2.1.pur=true
  generalize es[i]=r at hrow
  unfold D5
  split
  ·rename_i k v
   exact hrow 1 (by simp)
  ·simp[AV.pur]
theorem nX0:∀ {a b:List (Nat×TypeId×Nat)},oF0 a b=true->a=b
 | [],[],_=>rfl
 | [],_::_,h=>by simp[oF0]at h
 | _::_,[],h=>by simp[oF0]at h
 | (x,y,z)::as,(x',y',z')::bs,h=>by
  simp only[oF0,Bool.and_eq_true,Nat.beq_eq]at h
  obtain⟨⟨⟨h1,h2⟩,h3⟩,h4⟩:=h
  rw[h1,h2,h3,nX0 h4]
theorem vu0{θ:Nat->AV}{a b:AV}(h:eqX a b=true):a.sub θ=b.sub θ:=by
 unfold eqX at h
 split at h
 ·rw[Nat.eq_of_beq_eq_true h]
 ·rw[of_decide_eq_true h]
 ·cases h
theorem tj0{θ:Nat->AV}(hθ:Fit θ){lo:Bool}{ι:fM0}(hlo:lo=true->∀ i,i<P4->ι i=some (some i)){o o':l7}(h:bx0 lo ι o o'=true):fQ0 ι (o.sub θ) (o'.sub θ):=by
 cases o with
 | row e z es =>
  cases o' with
  | row e' z' es' =>
   simp only[bx0,Bool.and_eq_true]at h
   have h2:=(lR0 hθ es es' h.2).map
   exact⟨Nat.eq_of_beq_eq_true h.1.1,Nat.eq_of_beq_eq_true h.1.2,h2.1,h2.2⟩
  | _=>simp[bx0]at h
 | xrow e z i =>
  cases o' with
  | xrow e' z' i' =>
   simp only[bx0,Bool.and_eq_true]at h
   have h3:=Nat.eq_of_beq_eq_true h.2
   subst h3
   refine⟨Nat.eq_of_beq_eq_true h.1.1,Nat.eq_of_beq_eq_true h.1.2,rfl,fun a ha ha'=>⟨rfl,fun b hb hb'=>?_⟩⟩
   intro G u hr
   have hf:=hθ i
   rcases hf.cases with ⟨k,n,e⟩ | ⟨b',e⟩ | ⟨x,e⟩ | ⟨es,e⟩ | ⟨cs,e⟩ | ⟨c2,e⟩
   rotate_right
   ·simp[e,rowsOf]at ha
   rotate_right
   ·simp[e,rowsOf]at ha
   ·simp[e,rowsOf]at ha
   ·simp[e,rowsOf]at ha
   ·simp[e,rowsOf]at ha
   ·have hp:=hf.pur
    rw[e]at hp
    simp only[e,rowsOf]at hr ⊢
    exact O5 (G:=G) (G':=G.ren ι) (fun _ _ hh=>hh) hr (V2 hp a (by simpa[e,rowsOf]using ha) b (by simpa[e,rowsOf]using hb))
  | _=>simp[bx0]at h
 | xmap c =>
  cases o' with
  | xmap c' =>
   simp only[bx0]at h
   split at h
   ·rename_i i j
    have h3:=Nat.eq_of_beq_eq_true h
    subst h3
    exact dB0 (hθ i)
   ·exact dB0 (c:=.rs []) (by simp[aH0,AV.pur,ke0])
   ·cases h
  | map agg es clock =>
   by_cases hc:c=.rs []/\agg=false/\es=[]
   ·obtain⟨rfl,rfl,rfl⟩:=hc
    simp only[bx0]at h
    rw[Nat.beq_eq]at h;subst h
    exact dB0 (c:=.rs []) (by simp[aH0,AV.pur,ke0])
   ·exfalso
    unfold bx0 at h
    split at h
    ·rename_i e1 e2;cases e1
    ·rename_i e1 e2;cases e1
    ·rename_i e1 e2;cases e1
    ·rename_i e1 e2;cases e2
    ·rename_i e1 e2;cases e1;cases e2;exact hc ⟨rfl,rfl,rfl⟩
    ·rename_i e1 e2;cases e1
    ·rename_i e1 e2;cases e1
    ·cases h
  | _=>simp[bx0]at h
 | map agg es c =>
  cases o' with
  | map agg' es' c' =>
   simp only[bx0,Bool.and_eq_true]at h
   obtain⟨⟨⟨h1,h2⟩,h3⟩,h4⟩:=h
   have hl:=Nat.eq_of_beq_eq_true h3
   refine⟨by simpa using h1,Nat.eq_of_beq_eq_true h2,by simpa using hl,fun i hi hi'=>?_⟩
   have hi1:i<es.length:=by simpa using hi
   have hi2:i<es'.length:=by simpa using hi'
   have hm:=List.all_eq_true.1 h4 (es[i],es'[i]) (by
    rw[List.mem_iff_getElem]
    exact⟨i,by simp;omega,by simp⟩)
   simp only[Bool.and_eq_true,decide_eq_true_eq]at hm
   simp only[List.getElem_map]
   exact⟨hm.1.1,me0 hθ _ _ hm.1.2,Nat.eq_of_beq_eq_true hm.2⟩
  | _=>simp[bx0]at h
 | frow e z c cols0 k off v =>
  cases o' with
  | frow e' z' c' cols' k' off' v' =>
   cases v with
   | some v0=>simp[bx0]at h
   | none =>
   cases v' with
   | some v0=>simp[bx0]at h
   | none =>
   simp only[bx0,Bool.and_eq_true]at h
   obtain⟨⟨⟨⟨hl,h1⟩,h2⟩,hc⟩,hcols⟩:=h
   have h1:=Nat.eq_of_beq_eq_true h1
   have h2:=Nat.eq_of_beq_eq_true h2
   subst h1
   subst h2
   obtain⟨i,rfl,rfl⟩:=nY0 hc
   have:=nX0 hcols
   subst this
   have hid:=hlo hl
   refine⟨rfl,rfl,rfl,fun a ha ha'=>⟨rfl,fun b hb hb'=>?_⟩⟩
   intro G u hr
   simp only[Option.map_none,U3,u5]at hr ha hb ⊢
   have hal:a<(rowsOf (θ i)).length:=by rw[J2]at ha;exact ha
   obtain⟨es,hes⟩:∃ es,θ i=.rs es:=by
    rcases(hθ i).cases with ⟨_,_,e⟩ | ⟨_,e⟩ | ⟨_,e⟩ | ⟨es,e⟩ | ⟨_,e⟩ | ⟨_,e⟩
    ·simp[e,rowsOf]at hal
    ·simp[e,rowsOf]at hal
    ·simp[e,rowsOf]at hal
    ·exact⟨es,e⟩
    ·simp[e,rowsOf]at hal
    ·simp[e,rowsOf]at hal
   have hp:=(hθ i).pur
   rw[hes]at hp
   have hal':a<es.length:=by simpa[hes,rowsOf]using hal
   have hrow:(I5 cols0 0 (rowsOf (θ i)))[a]=Z7 cols0 a 0 es[a]:=by
    have:=I1 cols0 (rowsOf (θ i)) 0 a
    rw[List.getElem?_eq_getElem ha]at this
    simp only[hes,rowsOf,List.getElem?_eq_getElem hal',Option.map_some,Option.some.injEq,Nat.zero_add]at this
    simpa[hes,rowsOf]using this
   have hbl:b<es[a].length:=by
    have:=hb
    simp only[hrow,H2]at this
    exact this
   have hcell:(I5 cols0 0 (rowsOf (θ i)))[a][b]=al0 cols0 a b es[a][b]:=by
    have:=M6 cols0 a es[a] 0 b
    rw[List.getElem?_eq_getElem hbl,Option.map_some,Nat.zero_add]at this
    have h2:(I5 cols0 0 (rowsOf (θ i)))[a][b]?=some (al0 cols0 a b es[a][b]):=by rw[hrow];exact this
    rw[List.getElem?_eq_getElem hb]at h2
    simpa using h2
   rw[hcell]at hr ⊢
   unfold al0 at hr ⊢
   split at hr
   ·rename_i q hq
    have hi:=hid _ (dr0 a b)
    generalize (rowsOf es[a][b]).length=ln at hr ⊢
    cases hr with
    | ms _ _ _ _ p hp hv hz ad cp hA ho hl hsp=>exact .ms _ _ 0 _ p (by simp only[j4.ren,hi];exact hp) hv hz ad cp hA ho hl hsp
    | msNil _ _ p hp hv=>exact .msNil _ _ p (by simp only[j4.ren,hi];exact hp) hv
   ·rename_i hq
    exact O5 (G:=G) (G':=G.ren ι) (fun _ _ hh=>hh) hr (V2 hp a hal' b hbl)
  | _=>simp[bx0]at h
 | siter a b=>cases o'<;>simp[bx0]at h
 | xiter s p =>
  cases o' with
  | xiter s' p' =>
   simp only[bx0,Bool.and_eq_true]at h
   simp only[l7.sub,vu0 h.1,vu0 h.2]
   exact⟨rfl,rfl⟩
  | _=>simp[bx0]at h
 | miter m a b c=>cases o'<;>simp[bx0]at h
theorem fw0{ι:fM0}{η:Nat->AV}{s:AS}:∀ {l:List AV} {t0:Nat},fU0 ι η s l t0=true->∀ i (h:i<l.length),cc0 ι ((l[i]).ssub η) (s.get (t0+i))=true
 | [],_,_,i,h=>by simp at h
 | a::as,t0,hb,i,h=>by
  simp only[fU0,Bool.and_eq_true]at hb
  cases i with
  | zero=>exact hb.1
  | succ i =>
   have:=fw0 hb.2 i (by simpa using h)
   simpa[Nat.add_assoc,Nat.add_comm 1 i]using this
theorem qx0{ι:fM0}:∀ {l:List (Nat×l7)},injB ι l=true->∀ p∈l,∀ q∈l,∀ k,ι p.1=some (some k)->ι q.1=some (some k)->p.1=q.1
 | [],_,p,hp,_,_,_,_,_=>by cases hp
 | a::l,h,p,hp,q,hq,k,h1,h2=>by
  simp only[injB,Bool.and_eq_true]at h
  have key:∀ r∈l,ι a.1=some (some k)->ι r.1=some (some k)->a.1=r.1:=fun r hr e1 e2=>by
   have:=List.all_eq_true.1 h.1 r hr
   rw[e1]at this
   simp only[Bool.or_eq_true]at this
   rcases this with h3 | h3
   ·exact(Nat.eq_of_beq_eq_true h3).symm
   ·simp[X2,e2]at h3
  rcases List.mem_cons.1 hp with e1 | hp'
  ·rcases List.mem_cons.1 hq with e2 | hq'
   ·rw[e1,e2]
   ·rw[e1]at h1 ⊢;exact key q hq' h1 h2
  ·rcases List.mem_cons.1 hq with e2 | hq'
   ·rw[e2]at h2 ⊢;exact(key p hp' h2 h1).symm
   ·exact qx0 h.2 p hp' q hq' k h1 h2
theorem ed0(a:Acc):∀ (k l:Nat),(cp0 a l k).length=k
 | 0,_=>rfl
 | k+1,l=>by simp[cp0,ed0 a k]
theorem Hint.state_get(h:Hint)(t:Nat):h.state.get t=(h.slots[t]?).getD (.sc undef):=AS.enter_get _ _ _ _
theorem bR0{θ:Nat->AV}(hθ:Fit θ){n l:Nat}{h:Hint}{s:AS}{vals:List AV}(hm:cO0 n l h s=some vals) :
  vals.length=h.k/\(∀ v∈vals,aH0 (v.sub θ))/\Fit (fun i=>(ag0 l vals i).sub θ)/\∃ ι,Ren ι n (h.state.sub (fun i=>(ag0 l vals i).sub θ)) (s.sub θ):=by
 unfold cO0 at hm
 simp only at hm
 split at hm
 ·rename_i hc
  cases hm
  generalize hacc:guess s n l h=acc at *
  generalize hio0:acc.io.filter (fun p=>Nat.ble n p.1)=io at *
  simp only[Bool.and_eq_true]at hc
  obtain⟨⟨⟨⟨⟨⟨c1,c2⟩,c3⟩,c4⟩,c5⟩,c6⟩,c7⟩:=hc
  have hn:=Nat.eq_of_beq_eq_true c2
  have hnx:=Nat.le_of_ble_eq_true c3
  have hfit:∀ v∈cp0 acc l h.k,aH0 (v.sub θ):=fun v hv=>xb0 hθ (List.all_eq_true.1 c1 v hv)
  refine⟨ed0 _ _ _,hfit,fun i=>?_,iG0 n io,?_⟩
  ·show aH0 ((ag0 l (cp0 acc l h.k) i).sub θ)
   unfold ag0
   split
   ·cases hg:(cp0 acc l h.k)[i-l]? with
    | none=>simpa using hθ i
    | some v=>exact hfit v (List.mem_of_getElem? hg)
   ·simpa using hθ i
  ·have hst:h.state.sub (fun i=>(ag0 l (cp0 acc l h.k) i).sub θ)=(h.state.ssub (ag0 l (cp0 acc l h.k))).sub θ:=(AS.ssub_sub _ _ _).symm
   have hobj:∀ i o,(h.state.sub (fun i=>(ag0 l (cp0 acc l h.k) i).sub θ)).st.objs i=some o->∃ o0,(i,o0)∈h.objs/\o=(o0.ssub (ag0 l (cp0 acc l h.k))).sub θ:=fun i o ho=>by
    rw[AS.sub_st,c9.sub_objs]at ho
    cases hg:h.state.st.objs i with
    | none=>rw[hg]at ho;cases ho
    | some o0 =>
     rw[hg]at ho
     simp only[Option.map_some,Option.some.injEq]at ho
     refine⟨o0,?_,by rw[l7.ssub_sub];exact ho.symm⟩
     rcases Tr.ofList_get h.objs .leaf i o0 hg with h1 | h1
     ·exact h1
     ·rw[Tr.get_leaf]at h1;cases h1
   have hio:∀ i k,pp0 io i=some k->n<=i/\i<h.next:=fun i k hk=>by
    have aux:∀ (L:List (Nat×Option Nat)),L.all (fun p=>Nat.ble n p.1&&Nat.blt p.1 h.next)=true->pp0 L i=some k->n<=i/\i<h.next:=by
     intro L
     induction L with
     | nil=>intro _ hh;simp[pp0]at hh
     | cons a L ih =>
      intro hall hh
      simp only[List.all_cons,Bool.and_eq_true]at hall
      unfold pp0 at hh
      split at hh
      ·rename_i he
       have:=Nat.eq_of_beq_eq_true he
       subst this
       exact⟨Nat.le_of_ble_eq_true hall.1.1,by simpa[Nat.blt_eq]using hall.1.2⟩
      ·exact ih (by simpa using hall.2) hh
    exact aux io c4 hk
   refine⟨hn,fun i hi=>?_,fun i k hk=>?_,hnx,fun i j k oi oj h1 h2 h3 h4=>?_,fun t ht=>?_,fun t ht=>?_,fun i o ho=>?_⟩
   ·have:Nat.blt i n=true:=by rw[Nat.blt_eq];exact hi
    simp only[iG0,this]
   ·show i<h.next
    simp only[iG0]at hk
    split at hk
    ·rename_i hb;rw[Nat.blt_eq]at hb;omega
    ·exact(hio i k hk).2
   ·obtain⟨o1,m1,_⟩:=hobj i oi h3
    obtain⟨o2,m2,_⟩:=hobj j oj h4
    exact qx0 c7 _ m1 _ m2 k h1 h2
   ·have ht':t<h.slots.length:=by rw[hn];exact ht
    have:=fw0 c5 t ht'
    rw[Nat.zero_add]at this
    rw[AS.sub_get,AS.sub_get,Hint.state_get,List.getElem?_eq_getElem ht',Option.getD_some,<-ssub_sub]
    exact me0 hθ _ _ this
   ·have ht':h.slots.length<=t:=by rw[hn];exact ht
    rw[AS.sub_get,Hint.state_get,List.getElem?_eq_none ht'];simp
   ·obtain⟨o0,m0,rfl⟩:=hobj i o ho
    have:=List.all_eq_true.1 c6 (i,o0) m0
    simp only[uD0]at this
    split at this
    ·rename_i k hk
     split at this
     ·rename_i o' ho'
      exact .inl ⟨k,o'.sub θ,hk,by rw[AS.sub_st,c9.sub_objs,ho'];rfl,tj0 hθ (fun hlo i hi=>by
       have h9:=Nat.le_of_ble_eq_true hlo
       have:Nat.blt i n=true:=by rw[Nat.blt_eq];omega
       simp only[iG0,this]) this⟩
     ·cases this
    ·rename_i hk
     refine .inr ⟨hk,?_⟩
     unfold of0 at this
     split at this
     ·rename_i e z he;exact⟨e,z,by rw[he];simp[l7.sub]⟩
     ·cases this
    ·cases this
 ·cases hm
theorem nF0(f:AV->AV):∀ (l:List AV) (i:Nat) (t:Tr AV),(uB0 l i t).map f=uB0 (l.map f) i (t.map f)
 | [],i,t=>rfl
 | v::l,i,t=>by
  simp only[uB0,List.map_cons]
  rw[nF0 f l,Tr.map_set];rfl
theorem gR0(θ:Nat->AV)(n:Nat)(args:List AV)(σ:c9):(AS.enter n args σ).sub θ=AS.enter n (args.map (AV.sub θ)) (σ.sub θ):=by
 simp only[AS.sub,AS.enter,nF0];rfl
theorem rM0{T:Tab}{θ:Nat->AV}{s:AS}{r:ResultVar}{v:AV}(h:kL0 T s r=some v):kL0 T (s.sub θ) r=some (v.sub θ):=by
 cases r with
 | tmp t=>simp only[kL0,Option.some.injEq]at h ⊢;rw[AS.sub_get,h]
 | cell a t=>simp only[kL0]at h ⊢;rw[AS.sub_get];exact gW0 h
theorem gO0{T:Tab}{θ:Nat->AV}{s:AS}:∀ {rs:List ResultVar} {l:List AV},eI0 T s rs=some l->eI0 T (s.sub θ) rs=some (l.map (AV.sub θ))
 | [],l,h=>by simp only[eI0,Option.some.injEq]at h;subst h;rfl
 | r::rs,l,h=>by
  unfold eI0 at h
  split at h
  ·rename_i v l' h1 h2
   cases h
   simp only[eI0,rM0 h1,gO0 h2];rfl
  ·cases h
theorem cx0{T:Tab}{θ:Nat->AV}{fn:Func}{s:AS}{v:AV}(h:D0 T fn s=some v):D0 T fn (s.sub θ)=some (v.sub θ):=by
 unfold D0 at h
 split at h
 ·rename_i u hu;cases h;simp[D0,gO0 hu]
 ·rename_i l hne hl
  cases h
  simp only[D0,gO0 hl]
  split
  ·rename_i u e
   simp only[Option.some.injEq]at e
   have hlen:=congrArg List.length e
   simp only[List.length_map,List.length_cons,List.length_nil]at hlen
   obtain⟨x,rfl⟩:=List.length_eq_one_iff.1 hlen
   exact absurd rfl (hne x)
  ·rename_i l' _ e;simp only[Option.some.injEq]at e;subst e;simp
  ·rename_i e;cases e
 ·cases h
theorem at0:∀ {t:Tr l7} {k:Nat} {e:TypeId} {z j:Nat},t.get k=some (.xrow e z j)->j∈Z3 t
 | .leaf,k,e,z,j,h=>by rw[Tr.get_leaf]at h;cases h
 | .node v l r,0,e,z,j,h=>by simp only[Tr.get]at h;subst h;simp[Z3]
 | .node v l r,k+1,e,z,j,h=>by
  simp only[Tr.get]at h
  simp only[Z3,List.mem_append]
  split at h
  ·exact .inr (.inl (at0 h))
  ·exact .inr (.inr (at0 h))
theorem V8:∀ {t:Tr l7} {k:Nat} {j:Nat},t.get k=some (.xmap (.sy j))->j∈Z3 t
 | .leaf,k,j,h=>by rw[Tr.get_leaf]at h;cases h
 | .node v l r,0,j,h=>by simp only[Tr.get]at h;subst h;simp[Z3]
 | .node v l r,k+1,j,h=>by
  simp only[Tr.get]at h
  simp only[Z3,List.mem_append]
  split at h
  ·exact .inr (.inl (V8 h))
  ·exact .inr (.inr (V8 h))
mutual
theorem refr_sub{θ:Nat->AV}{id j fr:Nat}(hl:(rowsOf (θ fr)).length=(rowsOf (θ j)).length):∀ v:AV,(v.refr id j fr).sub θ=v.sub θ
 | .ss a z i=>by
  simp only[AV.refr]
  split
  ·rename_i h
   simp only[Bool.and_eq_true,Nat.beq_eq]at h
   obtain⟨rfl,rfl⟩:=h
   simp only[R8,hl]
  ·rfl
 | .rs es=>by simp only[AV.refr,AV.sub];rw[gM0 hl es]
 | .rp cs=>by simp only[AV.refr,AV.sub];rw[aw0 hl cs]
 | .fn f a c=>by simp only[AV.refr,AV.sub];rw[aw0 hl a,aw0 hl c]
 | .agg cs=>by simp only[AV.refr,AV.sub];rw[aw0 hl cs]
 | .tup cs=>by simp only[AV.refr,AV.sub];rw[aw0 hl cs]
 | .any=>rfl
 | .sc _=>rfl
 | .ms _ _ _ _=>rfl
 | .mp _ _ _=>rfl
 | .mm _=>rfl
 | .it _=>rfl
 | .sy _=>rfl
 | .xp _ _ _=>rfl
 | .rm _=>rfl
theorem aw0{θ:Nat->AV}{id j fr:Nat}(hl:(rowsOf (θ fr)).length=(rowsOf (θ j)).length):∀ l:List AV,Y8 θ (ka0 id j fr l)=Y8 θ l
 | []=>rfl
 | c::cs=>by simp only[ka0,Y8];rw[refr_sub hl c,aw0 hl cs]
theorem gM0{θ:Nat->AV}{id j fr:Nat}(hl:(rowsOf (θ fr)).length=(rowsOf (θ j)).length):∀ l:List (List AV),dp0 θ (qE0 id j fr l)=dp0 θ l
 | []=>rfl
 | c::cs=>by simp only[qE0,dp0];rw[aw0 hl c,gM0 hl cs]
end
theorem l7.refr_sub{θ:Nat->AV}{id j fr:Nat}(hl:(rowsOf (θ fr)).length=(rowsOf (θ j)).length)(o:l7):(o.refr id j fr).sub θ=o.sub θ:=by
 cases o with
 | row e z es=>simp only[l7.refr,l7.sub,<-bc0];rw[gM0 hl]
 | map agg es c =>
  simp only[l7.refr,l7.sub,List.map_map]
  congr 1
  apply List.map_congr_left
  intro e _
  simp[Go.Ab.refr_sub hl]
 | _=>rfl
theorem AS.refr_sub{θ:Nat->AV}{id j fr:Nat}(hl:(rowsOf (θ fr)).length=(rowsOf (θ j)).length)(s:AS):(s.refr id j fr).sub θ=s.sub θ:=by
 simp only[AS.refr,AS.sub,c9.sub,Tr.map_map]
 have h1:(fun x=>AV.sub θ (AV.refr id j fr x))=AV.sub θ:=funext fun x=>Go.Ab.refr_sub hl x
 have h2:(fun x=>l7.sub θ (l7.refr id j fr x))=l7.sub θ:=funext fun x=>l7.refr_sub hl x
 rw[h1,h2]
theorem sl0{T:Tab}{σ σ1 σ2:c9}{t:TypeId}{id id1 i j:Nat}{e:TypeId}{z:Nat}{es:List (List AV)}{v:AV}(h1:σ1.objs id1=some (.row e z es))(h2:σ.objs id=some (.row e z es))(h:V4 T σ1 t (.mp id1 i j) v=some σ2) :
  ∃ es',σ2.objs id1=some (.row e z es')/\V4 T σ t (.mp id i j) v=some (σ.set id (.row e z es')):=by
 unfold V4 at h ⊢
 split at h
 ·rename_i id' i' j' vs ti e1 e2 e3
  cases e1
  simp only[h1]at h
  simp only[e2,e3,h2]
  split at h
  ·rename_i cs hcs
   split at h
   ·rename_i hc
    cases h
    rw[if_pos hc]
    exact⟨_,by simp[c9.objs_set],rfl⟩
   ·cases h
  ·cases h
 ·cases h
theorem pV0{T:Tab}{Φ:H8}{θ θ':Nat->AV}{fr:Nat}(ha:∀ i,i<fr->θ' i=θ i){s s':AS}(hb:s.bnd fr=true){op:Op}{ro:RO}(h:rj0 s op fr=some (ro,s'))(he:j5 T Φ θ ro=some (AV.sub θ' (.sy fr))) :
  ∃ σ2,(∀ id,aop T (s.sub θ').eval (s.st.sub θ') id op=some (.sc undef,σ2))/\s'.sub θ'={ s.sub θ' with st:=σ2 }:=by
 unfold rj0 at h
 split at h
 ·rename_i t a x
  split at h
  ·rename_i id i off hp
   split at h
   ·rename_i e z j ho
    cases h
    obtain⟨k1,hj⟩:=mp0 (θ:=θ) ha hb ho
    have k2:=ns0 (θ:=θ) ha hb (s.bnd_eval hb a) hp
    simp only[j5,u5]at he
    split at he
    ·rename_i σ1 hs1
     have hr:(dE0 e z (θ j)).objs 0=some (.row e z (rowsOf (θ j))):=by simp[dE0,c9.objs_set]
     obtain⟨es',g1,g2⟩:=sl0 hr k1 hs1
     rw[g1]at he
     simp only at he
     split at he
     ·rename_i hlen
      simp only[Option.some.injEq]at he
      have hlen:=Nat.eq_of_beq_eq_true hlen
      have hl:(rowsOf (θ' fr)).length=(rowsOf (θ' j)).length:=by rw[<- he,ha j hj];exact hlen
      refine⟨(s.st.sub θ').set id (.row e z es'),fun id0=>?_,?_⟩
      ·simp only[aop,AS.sub_eval,k2,sub_agree ha _ (s.bnd_eval hb x),g2]
      ·have e1:=AS.refr_sub (id:=id) (j:=j) (fr:=fr) hl s
       have e2:({ s.refr id j fr with st:=(s.refr id j fr).st.set id (.xrow e z fr) }:AS).sub θ'={ (s.refr id j fr).sub θ' with st:=((s.refr id j fr).st.set id (.xrow e z fr)).sub θ' }:=rfl
       rw[e2,c9.sub_set]
       have e3:(s.refr id j fr).st.sub θ'=s.st.sub θ':=congrArg AS.st e1
       rw[e3,e1]
       simp only[l7.sub,<-he,rowsOf]
     ·cases he
    ·cases he
   ·cases h
  ·cases h
 ·cases h
theorem eF0{σ:c9}{id:Nat}{o:l7}(i:Nat):(I8 σ id o).objs i=if i=id then some o else none:=by
 unfold I8
 rw[c9.objs_set]
 split
 ·rfl
 ·exact Tr.get_leaf i
theorem kA0(θ:Nat->AV)(σ:c9)(id:Nat)(o:l7):(I8 σ id o).sub θ=I8 (σ.sub θ) id (o.sub θ):=by
 unfold I8
 rw[c9.sub_set]
 rfl
theorem hW0{G:j4}{σ:c9}{w:World}(h:Rel G σ w){id:Nat}{o:l7}(ho:σ.objs id=some o):Rel G (I8 σ id o) w :=
 h.less rfl fun i x hx=>by
  rw[eF0]at hx
  split at hx
  ·rename_i e;subst e;cases hx;exact ho
  ·cases hx
noncomputable abbrev j4.froz1(G:j4)(σ:c9)(w:World)(id:Nat)(o:l7):j4:=G.frozen (I8 σ id o) w G.pl
theorem P2{G:j4}{σ:c9}{w:World}(h:Rel G σ w){id:Nat}{o:l7}(ho:σ.objs id=some o):G.le (G.froz1 σ w id o) :=
 ⟨rfl,fun _ _ hb=>F7 (hW0 h ho) hb,fun _ _ hp=>hp⟩
theorem pq0{G:j4}{σ:c9}{id:Nat}{o:l7}{b:Nat}(h:Live G (I8 σ id o) b):∃ p,G.pl id=some p/\p.virt=false/\p.block=b:=by
 obtain⟨i,x,p,h1,h2,h3,h4⟩:=h
 rw[eF0]at h1
 split at h1
 ·rename_i e;subst e;exact⟨p,h2,h3,h4⟩
 ·cases h1
theorem rC0{G:j4}{s s':AS}{a:Act}{w:World}(hr:aG0 G s a w){id:Nat}{o:l7}(ho:s.st.objs id=some o)(hn:s'.n=s.n)(hx:s'.st.next=s.st.next)
  (hobj:∀ i x,s'.st.objs i=some x->i≠id/\∃ y,s.st.objs i=some y/\(∀ p ho',N2 G p y ho'->N2 (G.froz1 s.st w id o) p x ho')/\((∃ e z,y=.row e z [])->∃ e z,x=.row e z []))
  (hslots:∀ t u,Rep G (s.get t) u->Rep (G.froz1 s.st w id o) (s'.get t) u) {n:Nat} (hnn:n<=s.st.next):aG0 (G.froz1 s.st w id o) s' a w/\S9 n G s.st w (G.froz1 s.st w id o) s'.st w:=by
 have hrel:=hr.rel
 have hone:=hW0 hrel ho
 have himm:∀ b x,(G.froz1 s.st w id o).imm b=some x->(∃ p,G.pl id=some p/\p.virt=false/\p.block=b/\w.heap[b]?=some x)\/G.imm b=some x:=fun b x hb=>by
  simp only[j4.froz1,j4.frozen]at hb
  split at hb
  ·rename_i hl
   obtain⟨p,h1,h2,h3⟩:=pq0 hl
   exact .inl ⟨p,h1,h2,h3,hb⟩
  ·exact .inr hb
 refine⟨⟨hr.defers,by rw[hn];exact hr.size,fun t=>hslots t _ (hr.tmps t),?_⟩,?_⟩
 ·refine⟨hrel.os,hrel.tape,hrel.output,hrel.size,fun b x hb=>?_,by rw[hx];exact hrel.fresh,fun i x hi=>?_,fun i j oi oj pi pj h1 h2 h3 h4 v1 v2 h5=>?_,fun b o' v hv=>bY0 hone (hrel.glob b o' v hv)⟩
  ·rcases himm b x hb with ⟨p,_,_,_,h⟩ | h
   ·exact h
   ·exact hrel.imm b x h
  ·obtain⟨hne,y,hy,hok,hemp⟩:=hobj i x hi
   obtain⟨p,hp,hl⟩:=hrel.objs i y hy
   refine⟨p,hp,?_⟩
   rcases hl with ⟨hv,e,z,rfl⟩ | ⟨hv,l1,l2,l3⟩
   ·exact .inl ⟨hv,hemp ⟨e,z,rfl⟩⟩
   ·refine .inr ⟨hv,?_,l2,hok p _ l3⟩
    cases hb:(G.froz1 s.st w id o).imm p.block with
    | none=>rfl
    | some q =>
     rcases himm _ _ hb with ⟨p',h1,h2,h3,_⟩ | h
     ·exact absurd (hrel.sep i id y o p p' hy ho hp h1 hv h2 h3.symm) hne
     ·rw[l1]at h;cases h
  ·obtain⟨_,yi,hyi,_⟩:=hobj i oi h1
   obtain⟨_,yj,hyj,_⟩:=hobj j oj h2
   exact hrel.sep i j yi yj pi pj hyi hyj h3 h4 v1 v2 h5
 ·refine⟨rfl,fun b x hb=>F7 hone hb,fun _ _=>rfl,by rw[hx];exact hnn,⟨Nat.le_refl _,fun _ _ _=>rfl,fun i x p h1 h2 h3 _=>?_,fun b x hb=>?_,Nat.le_refl _⟩⟩
  ·obtain⟨_,y,hy,_⟩:=hobj i x h1
   exact⟨i,y,p,hy,h2,h3,rfl⟩
  ·rcases himm b x hb with ⟨p,h1,h2,h3,_⟩ | h
   ·exact .inr (.inr ⟨id,o,p,ho,h1,h2,h3⟩)
   ·exact .inl h
section
variable {θ:Nat->AV} (hθ:Fit θ) {G:j4} {σ:c9} {w:World} {id:Nat} {o:l7} (h:Rel G (σ.sub θ) w) (ho:σ.objs id=some o) (hxv:∀ j,j∈Z3 (I8 σ id o).tr->∃ es,θ j=.rs es)
include hθ h ho hxv in
theorem ki0(v c:AV)(u:Value)(hc:aI0 (I8 σ id o) 3 v=some c)(hr:Rep G (v.sub θ) u):Rep (G.froz1 (σ.sub θ) w id (o.sub θ)) (c.sub θ) u:=by
 have h1:Rel G ((I8 σ id o).sub θ) w:=by
  rw[kA0]
  exact hW0 h (by rw[c9.sub_objs,ho];rfl)
 have:=cT0 hθ h1 G.pl (fun i e z j hi=>hxv j (at0 hi)) (fun i j hi=>hxv j (V8 hi)) 3 v c u hc hr
 rw[kA0]at this
 exact this
include hθ h ho hxv
mutual
theorem pR0:∀ (v:AV) (u:Value),Rep G (v.sub θ) u->Rep (G.froz1 (σ.sub θ) w id (o.sub θ)) ((v.frz (I8 σ id o)).sub θ) u
 | .agg cs,u,hr=>by
  simp only[AV.frz,AV.sub]at hr ⊢
  cases hr with
  | agg _ vs h1 h2 =>
   have:=hK0 cs vs ⟨h1,h2⟩
   exact .agg _ vs this.1 this.2
 | .tup cs,u,hr=>by
  simp only[AV.frz,AV.sub]at hr ⊢
  cases hr with
  | tup _ vs h1 h2 =>
   have:=hK0 cs vs ⟨h1,h2⟩
   exact .tup _ vs this.1 this.2
 | .fn f a c,u,hr=>by
  simp only[AV.frz,AV.sub]at hr ⊢
  cases hr with
  | fn _ _ _ fv cv h1 h2 h3 h4 =>
   have k1:=hK0 a fv ⟨h1,h3⟩
   have k2:=hK0 c cv ⟨h2,h4⟩
   exact .fn _ _ _ fv cv k1.1 k2.1 k1.2 k2.2
 | .ss a z i,u,hr=>by
  simp only[AV.frz]
  cases hc:aI0 (I8 σ id o) 3 (.ss a z i)with
  | some c=>simp only[Option.getD_some];exact ki0 hθ h ho hxv _ _ _ hc hr
  | none=>exact hr.mono (P2 h (by rw[c9.sub_objs,ho];rfl))
 | .mp a i j,u,hr=>by
  simp only[AV.frz]
  cases hc:aI0 (I8 σ id o) 3 (.mp a i j)with
  | some c=>simp only[Option.getD_some];exact ki0 hθ h ho hxv _ _ _ hc hr
  | none=>exact hr.mono (P2 h (by rw[c9.sub_objs,ho];rfl))
 | .any,u,hr=>by simp only[AV.frz];exact hr.mono (P2 h (by rw[c9.sub_objs,ho];rfl))
 | .sc _,u,hr=>by simp only[AV.frz];exact hr.mono (P2 h (by rw[c9.sub_objs,ho];rfl))
 | .rs _,u,hr=>by simp only[AV.frz];exact hr.mono (P2 h (by rw[c9.sub_objs,ho];rfl))
 | .rp _,u,hr=>by simp only[AV.frz];exact hr.mono (P2 h (by rw[c9.sub_objs,ho];rfl))
 | .ms _ _ _ _,u,hr=>by simp only[AV.frz];exact hr.mono (P2 h (by rw[c9.sub_objs,ho];rfl))
 | .mm _,u,hr=>by simp only[AV.frz];exact hr.mono (P2 h (by rw[c9.sub_objs,ho];rfl))
 | .it _,u,hr=>by simp only[AV.frz];exact hr.mono (P2 h (by rw[c9.sub_objs,ho];rfl))
 | .sy _,u,hr=>by simp only[AV.frz];exact hr.mono (P2 h (by rw[c9.sub_objs,ho];rfl))
 | .xp _ _ _,u,hr=>by simp only[AV.frz];exact hr.mono (P2 h (by rw[c9.sub_objs,ho];rfl))
 | .rm _,u,hr=>by simp only[AV.frz];exact hr.mono (P2 h (by rw[c9.sub_objs,ho];rfl))
theorem hK0:∀ (l:List AV) (us:List Value),B7 G (Y8 θ l) us->B7 (G.froz1 (σ.sub θ) w id (o.sub θ)) (Y8 θ (jm0 (I8 σ id o) l)) us
 | [],us,hr=>by simp only[jm0,Y8]at hr ⊢;rw[hr.nil_inv];exact B7.nil _
 | c::cs,us,hr=>by
  simp only[jm0,Y8]at hr ⊢
  obtain⟨v,vs,rfl,h1,h2⟩:=hr.cons_inv
  exact(hK0 cs vs h2).cons (pR0 c v h1)
end
theorem rP0(y:l7)(p:Pl)(ho':Option Obj)(hk:N2 G p (y.sub θ) ho'):N2 (G.froz1 (σ.sub θ) w id (o.sub θ)) p ((y.frz (I8 σ id o)).sub θ) ho':=by
 have hle:G.le (G.froz1 (σ.sub θ) w id (o.sub θ)):=P2 h (by rw[c9.sub_objs,ho];rfl)
 cases y with
 | row e z es =>
  simp only[l7.frz,l7.sub]at hk ⊢
  obtain⟨cs,h1,h2,h3,h4,h5⟩:=hk
  refine⟨cs,h1,h2,h3,by simpa using h4,fun i hi=>?_⟩
  have hi0:i<es.length:=by simpa using hi
  have hi':i<(es.map (List.map (AV.sub θ))).length:=by simpa using hi0
  obtain⟨g1,g2⟩:=h5 i hi'
  have e1:(es.map (List.map (AV.sub θ)))[i]=Y8 θ es[i]:=by simp[H6]
  have e2:((es.map (jm0 (I8 σ id o))).map (List.map (AV.sub θ)))[i]=Y8 θ (jm0 (I8 σ id o) es[i]):=by simp[H6]
  have hll:∀ l:List AV,(jm0 (I8 σ id o) l).length=l.length:=fun l=>by
   induction l with
   | nil=>rfl
   | cons c cs ih=>simp[jm0,ih]
  have hlen:(Y8 θ (jm0 (I8 σ id o) es[i])).length=es[i].length:=by rw[H6,List.length_map,hll]
  refine⟨by rw[e2,hlen];rw[e1,H6,List.length_map]at g1;exact g1,fun j hj hj'=>?_⟩
  have hj0:j<es[i].length:=by rw[e2,hlen]at hj;exact hj
  have hj1:j<(es.map (List.map (AV.sub θ)))[i].length:=by simpa using hj0
  have g3:=g2 j hj1 hj'
  have e3:(es.map (List.map (AV.sub θ)))[i][j]=(es[i][j]).sub θ:=by simp
  have hjz:j<(jm0 (I8 σ id o) es[i]).length:=by rw[hll];exact hj0
  have e5:∀ (l:List AV) (j:Nat) (hj:j<l.length) (hj2:j<(jm0 (I8 σ id o) l).length),(jm0 (I8 σ id o) l)[j]=(l[j]).frz (I8 σ id o):=fun l=>by
   induction l with
   | nil=>intro j hj;simp at hj
   | cons c cs ih =>
    intro j hj hj2
    cases j with
    | zero=>rfl
    | succ j=>exact ih j (by simpa using hj) (by simpa[jm0]using hj2)
  have e4:((es.map (jm0 (I8 σ id o))).map (List.map (AV.sub θ)))[i][j]=((es[i][j]).frz (I8 σ id o)).sub θ:=by
   simp[e5 es[i] j hj0 hjz]
  rw[e4]
  rw[e3]at g3
  exact pR0 hθ h ho hxv _ _ g3
 | map agg es c=>exact N2.mono hle hk
 | siter s pos=>exact N2.mono hle hk
 | miter m a b c=>exact N2.mono hle hk
 | xrow e z i=>exact N2.mono hle hk
 | xmap c=>exact N2.mono hle hk
 | frow=>exact N2.mono hle hk
 | xiter s p=>exact N2.mono hle hk
end
theorem AS.frz_get(σ1:c9)(id:Nat)(s:AS)(t:Nat):(s.frz σ1 id).get t=(s.get t).frz σ1:=by
 simp only[AS.get,AS.frz,Tr.map_get]
 cases s.tr.get t<;>simp[AV.frz]
theorem AS.frz_objs(σ1:c9)(id:Nat)(s:AS)(i:Nat):(s.frz σ1 id).st.objs i=if i=id then none else (s.st.objs i).map (l7.frz σ1):=by
 show ((s.st.del id).tr.map (l7.frz σ1)).get i=_
 rw[Tr.map_get]
 have:(s.st.del id).tr.get i=if i=id then none else s.st.objs i:=c9.objs_del s.st id i
 rw[this]
 split<;>rfl
theorem nT0{s:AS}{θ:Nat->AV}(hθ:Fit θ){id:Nat}{o:l7}(ho:s.st.objs id=some o)(hxv:∀ j,j∈Z3 (I8 s.st id o).tr->∃ es,θ j=.rs es){G:j4}{a:Act}{w:World}(hr:aG0 G (s.sub θ) a w){n:Nat}(hnn:n<=s.st.next) :
  aG0 (G.froz1 (s.st.sub θ) w id (o.sub θ)) ((s.frz (I8 s.st id o) id).sub θ) a w/\S9 n G (s.sub θ).st w (G.froz1 (s.st.sub θ) w id (o.sub θ)) ((s.frz (I8 s.st id o) id).sub θ).st w:=by
 have ho':(s.sub θ).st.objs id=some (o.sub θ):=by rw[AS.sub_st,c9.sub_objs,ho];rfl
 exact rC0 (s':=(s.frz (I8 s.st id o) id).sub θ) hr ho' rfl rfl (fun i x hi=>by
   rw[AS.sub_st,c9.sub_objs,AS.frz_objs]at hi
   split at hi
   ·cases hi
   ·rename_i hne
    cases hy:s.st.objs i with
    | none=>rw[hy]at hi;cases hi
    | some y =>
     rw[hy]at hi
     cases hi
     refine⟨hne,y.sub θ,by rw[AS.sub_st,c9.sub_objs,hy];rfl,fun p q hk=>rP0 hθ hr.rel ho hxv y p q hk,?_⟩
     rintro ⟨e,z,he⟩
     cases y with
     | row e' z' es =>
      simp only[l7.sub,l7.row.injEq]at he
      have:es=[]:=by simpa using he.2.2
      subst this
      exact⟨e',z',by simp[l7.frz,l7.sub]⟩
     | xrow e' z' j=>exact⟨e,z,by simp only[l7.frz];exact he⟩
     | frow e' z' c cols k off v=>exact⟨e,z,by simp only[l7.frz];exact he⟩
     | _=>simp only[l7.sub,P3]at he;first | (cases he;done) | (split at he<;>cases he))
  (fun t u hu=>by
   rw[AS.sub_get]at hu ⊢
   rw[AS.frz_get]
   exact pR0 hθ hr.rel ho hxv _ _ hu) hnn
theorem BWp.freeze{P:Program}{n:Nat}{c:Code}{Q:Exit->AS->Prop}{s:AS}{θ:Nat->AV}(hθ:Fit θ){id:Nat}{o:l7}(ho:s.st.objs id=some o)(hxv:∀ j,j∈Z3 (I8 s.st id o).tr->∃ es,θ j=.rs es)
  (h:BWp P n c Q ((s.frz (I8 s.st id o) id).sub θ)):BWp P n c Q (s.sub θ):=by
 intro hn G a w hr
 obtain⟨h1,h2⟩:=nT0 hθ ho hxv hr (n:=n) hn
 refine wp_mono (h hn _ a w h1) ?_
 rintro e a' w' ⟨s2,G2,b1,b2,b3⟩
 exact⟨s2,G2,h2.trans b1 (Nat.le_refl _),b2,b3⟩
theorem Z6.freeze{P:Program}{ops:Array Oper}{n0 n:Nat}{Qs:AS->Prop}{l:List Nat}{s:AS}{θ:Nat->AV}(hθ:Fit θ){id:Nat}{o:l7}(ho:s.st.objs id=some o)(hxv:∀ j,j∈Z3 (I8 s.st id o).tr->∃ es,θ j=.rs es)
  (h:Z6 P ops n0 n Qs l ((s.frz (I8 s.st id o) id).sub θ)):Z6 P ops n0 n Qs l (s.sub θ):=by
 intro G a w hr hf hn hn2
 obtain⟨h1,h2⟩:=nT0 hθ ho hxv hr (n:=n) (by have:(s.sub θ).st.next=s.st.next:=rfl;omega)
 have:=h _ a w h1 (fun j hj=>hf j hj) hn hn2
 refine C9 ?_ _ _ _ this
 rintro e a' w' ⟨e1,s2,G2,b1,b2,b3⟩
 exact⟨e1,s2,G2,h2.trans b1 (Nat.le_refl _),b2,b3⟩
theorem iy0{s:AS}{fr:Nat}(hbb:s.bnd fr=true){a:Nat}{x:l7}(hobj:s.st.objs a=some x){θ θ1:Nat->AV}(a1:∀ i,i<fr->θ1 i=θ i)
  (hrows:((Z3 (I8 s.st a x).tr).all fun j=>match θ j with | .rs _=>true | _=>false)=true):∀ j,j∈Z3 (I8 s.st a x).tr->∃ es,θ1 j=.rs es:=fun j hj=>by
 have hj2:=List.all_eq_true.1 hrows j hj
 have hjf:j<fr:=by
  have hb:=s.bnd_obj hbb hobj
  have hm:∀ i,(I8 s.st a x).tr.get i=if i=a then some x else none:=fun i=>eF0 i
  have key:∀ (t:Tr l7),(∀ i y,t.get i=some y->y.bnd fr=true)->j∈Z3 t->j<fr:=by
   intro t
   induction t with
   | leaf=>intro _ hm;simp[Z3]at hm
   | node v l r ihl ihr =>
    intro hall hm
    simp only[Z3,List.mem_append]at hm
    rcases hm with hm | hm | hm
    ·have h0:=hall 0
     simp only[Tr.get]at h0
     split at hm
     ·rename_i e z j'
      have:=h0 _ rfl
      simp only[List.mem_singleton]at hm
      subst hm
      simpa[l7.bnd,Nat.blt_eq]using this
     ·rename_i j'
      have:=h0 _ rfl
      simp only[List.mem_singleton]at hm
      subst hm
      simpa[l7.bnd,AV.bnd,Nat.blt_eq]using this
     ·simp at hm
    ·exact ihl (fun i y hy=>hall (2*i+1) y (by simp only[Tr.get];rw[show 2*i%2=0 by omega,show 2*i / 2=i by omega];exact hy)) hm
    ·exact ihr (fun i y hy=>hall (2*i+1+1) y (by simp only[Tr.get];rw[show (2*i+1)%2=1 by omega,show (2*i+1) / 2=i by omega];exact hy)) hm
  refine key _ (fun i y hy=>?_) hj
  rw[hm]at hy
  split at hy
  ·cases hy;exact hb
  ·cases hy
 rw[a1 j hjf]
 split at hj2
 ·rename_i es he;exact⟨es,he⟩
 ·cases hj2
section
variable {P:Program} {T:Tab} (hT:C2 P T) {Φ:H8} (hΦ:ha0 P Φ) {F:FuncId->Option Func} (hF:∀ f fn,F f=some fn->P.funcs[f]?=some fn) {Q:AV->Prop}
def vE0(T:Tab)(Φ:H8)(Q:AV->Prop)(fr:Nat)(θ:Nat->AV)(A:Nat->List AV->Prop)(k:KS)(s':AS):Prop :=
 ∃ θ' S' fr' A',fr<=fr'/\Fit θ'/\(∀ i,i<fr->θ' i=θ i)/\(∀ l,l<fr->A' l=A l)/\s'=AS.sub θ' S'/\E7 T Φ Q (k S' fr') θ' A'
def rO0(T:Tab)(Φ:H8)(Q:AV->Prop)(fr:Nat)(θ:Nat->AV)(A:Nat->List AV->Prop)(k:KE)(e:Exit)(s':AS):Prop :=
 ∃ e' θ' S' fr' A',e=EX.toExit e'/\fr<=fr'/\Fit θ'/\(∀ i,i<fr->θ' i=θ i)/\(∀ l,l<fr->A' l=A l)/\s'=AS.sub θ' S'/\E7 T Φ Q (k e' S' fr') θ' A'
def ExOk(P:Program)(T:Tab)(Φ:H8)(Q:AV->Prop)(ex:Exe):Prop :=
 ∀ n c s fr k θ A,Fit θ->E7 T Φ Q (ex n c s fr k) θ A->BWp P n c (rO0 T Φ Q fr θ A k) (AS.sub θ s)
omit hT hΦ hF in
theorem nt0{Φ:H8}{f:FuncId}{φ:List AV->Option AV}(h:Φ.srt f=some φ):f<XT/\Φ (XT+f)=some φ:=by
 unfold H8.srt at h
 split at h
 ·rename_i hb
  exact⟨by simpa using hb,h⟩
 ·cases h
include hT hΦ hF in
theorem pM0{ex:Exe}(hex:ExOk P T Φ Q ex){ops:Array Oper}{n0 n i:Nat}{rest:List Nat}{o:Oper}(ho:ops[i]?=some o)(hi:i∉rest){s:AS}{fr:Nat}{kk:KS}{θ:Nat->AV}{A:Nat->List AV->Prop}(hθ:Fit θ)
  (hw:E3 ops (s.sub θ) o=some true) (hd:S8 s.n o.dst=true) {Qs:AS->Prop}
  (hk:∀ s' fr' θ' A',fr<=fr'->Fit θ'->(∀ j,j<fr->θ' j=θ j)->(∀ l,l<fr->A' l=A l)->E7 T Φ Q (kk s' fr') θ' A'->Z6 P ops n0 n Qs rest (AS.sub θ' s'))
  (h:E7 T Φ Q (sOne T Φ F ex (n0+i) o s fr kk) θ A):Z6 P ops n0 n Qs (i::rest) (s.sub θ):=by
 have hd':S8 (s.sub θ).n o.dst=true:=hd
 unfold sOne at h
 split at h
 ·rename_i fo args ts hop
  split at h
  ·rename_i f first cap hfo
   have hfo':(s.sub θ).eval fo=.fn (.func f) (first.map (AV.sub θ)) (cap.map (AV.sub θ)):=by rw[AS.sub_eval,hfo,qV0]
   have hargs:first.map (AV.sub θ)++args.toList.map (s.sub θ).eval++cap.map (AV.sub θ)=(first++args.toList.map s.eval++cap).map (AV.sub θ):=by
    simp only[List.map_append,List.map_map]
    congr 2
    apply List.map_congr_left
    intro x _
    exact AS.sub_eval θ s x
   split at h
   ·
    rename_i xv ro s' hso
    split at h
    ·rename_i hbb
     obtain⟨θ1,a0,f0,e0,θ',a1',f1,e1,hl⟩:=h
     have a1:∀ i,i<fr->θ' i=θ i:=fun i hi=>(a1' i hi).trans (a0 i hi)
     unfold sSort at hso
     split at hso
     ·cases hso
     rename_i φ hφ
     split at hso
     ·rename_i id z j rest hargs0
      split at hso
      ·rename_i e z' j' hobj
       split at hso
       ·rename_i crest hcc hcr
        simp only[Bool.and_eq_true,Nat.beq_eq]at hcc
        obtain⟨rfl,rfl⟩:=hcc
        cases hso
        obtain⟨k1,hj⟩:=mp0 (θ:=θ) a1 hbb hobj
        have hs1:s.sub θ'=s.sub θ:=AS.sub_agree a1 hbb
        have hst1:s.st.sub θ'=s.st.sub θ:=congrArg AS.st hs1
        have hs0:s.sub θ1=s.sub θ:=AS.sub_agree a0 hbb
        have hst0:s.st.sub θ1=s.st.sub θ:=congrArg AS.st hs0
        simp only[j5]at e0
        split at e0
        rotate_left
        ·cases e0
        rename_i hrows
        have hφ':Φ (XT+f)=some φ:=(nt0 hφ).2
        simp only[j5,hφ',List.map_cons,u5,J0]at e1
        split at e1
        ·rename_i c hc
         simp only[Bool.false_eq_true,false_implies,if_true,Option.some.injEq]at e1
         obtain⟨es,es',q1,q2,q3,q4⟩:=hΦ.sort f φ (nt0 hφ).1 hφ' _ _ _ _ hc
         have q1':θ j=.rs es:=by rw[<- a0 j hj];exact q1
         have hl':(rowsOf (θ' fr)).length=(rowsOf (θ' j)).length:=by rw[<- e1,a1 j hj,q1',q2];exact q3
         rw[q1']at k1
         have k2:(s.st.sub θ).objs id=some (.row e z es):=by rw[<- hst1];exact k1
         have hread:∀ G vs w,B7 G (rest.map (AV.sub θ1)) vs->Rel G ((s.st.sub θ).del id) w->B7 (G.frozen ((s.st.sub θ).del id) w (fun _=>none)) (crest.map (AV.sub θ1)) vs:=fun G vs w h1 h2=>by
          rw[<- hst0,<-c9.sub_del]at h2 ⊢
          obtain⟨g1,g2⟩:=L9 hcr
          refine⟨by rw[h1.1];simp[g1],fun a ha ha'=>?_⟩
          have ha1:a<crest.length:=by simpa using ha
          have ha2:a<rest.length:=by omega
          have hxv:∀ j',j'∈Z3 (s.st.del id).tr->Nat.blt j' fr=true->∃ es,θ1 j'=.rs es:=fun j' hm hb=>by
           have hm:=List.all_eq_true.1 hrows j' hm
           rw[a0 j' (by simpa using hb)]
           split at hm
           ·rename_i es he;exact⟨es,he⟩
           ·cases hm
          have hold:∀ id' o',(s.st.del id).objs id'=some o'->s.st.objs id'=some o':=fun id' o' ho'=>eC0 ho'
          have:=cT0 (θ:=θ1) f0 h2 (fun _=>none) (fun id' e' z' j' ho'=>?_) (fun id' j' ho'=>?_) 50 _ _ vs[a] (g2 a ha2 ha1) (by
           have:=h1.2 a (by simpa using ha2) ha'
           rw[List.getElem_map]at this
           exact this)
          ·simpa using this
          ·have hb:=s.bnd_obj hbb (hold _ _ ho')
           simp only[l7.bnd]at hb
           exact hxv j' (at0 ho') hb
          ·have hb:=s.bnd_obj hbb (hold _ _ ho')
           simp only[l7.bnd,AV.bnd]at hb
           exact hxv j' (V8 ho') hb
         have hcall:=q4 (s.st.sub θ) id e (rest.map (AV.sub θ1)) k2 hread
         have hargs2:first.map (AV.sub θ)++args.toList.map (s.sub θ).eval++cap.map (AV.sub θ)=.ms id z 0 es.length::rest.map (AV.sub θ1):=by
          have hfb:=s.bnd_eval hbb fo
          rw[hfo]at hfb
          simp only[AV.bnd,Bool.and_eq_true]at hfb
          have q1:first.map (AV.sub θ1)=first.map (AV.sub θ):=by rw[<- H6,<-H6,K7 a0 first hfb.1]
          have q2:cap.map (AV.sub θ1)=cap.map (AV.sub θ):=by rw[<- H6,<-H6,K7 a0 cap hfb.2]
          have q3:(first++args.toList.map s.eval++cap).map (AV.sub θ)=(first++args.toList.map s.eval++cap).map (AV.sub θ1):=by
           simp only[List.map_append,List.map_map]
           rw[q1,q2]
           congr 2
           apply List.map_congr_left
           intro x _
           exact(sub_agree a0 _ (s.bnd_eval hbb x)).symm
          rw[hargs,q3,hargs0,List.map_cons]
          simp only[AV.sub,a0 j hj,q1',rowsOf]
         rw[<- hargs2]at hcall
         refine Z6.turns ho hop hw hd' hfo' (σ1:=(s.st.sub θ).set id (.row e z es')) (Nat.le_refl _) hcall ?_
         have:=hk _ _ _ _ (Nat.le_succ _) f1 a1 (fun _ _=>rfl) hl
         have e2:(({ s.refr id j fr with st:=(s.refr id j fr).st.set id (.xrow e z fr) }:AS).put o.dst (.tup [])).sub θ'=({ s.sub θ with st:=(s.st.sub θ).set id (.row e z es') }.put o.dst (.tup [])):=by
          have r1:=AS.refr_sub (id:=id) (j:=j) (fr:=fr) hl' s
          have r2:(s.refr id j fr).st.sub θ'=s.st.sub θ':=congrArg AS.st r1
          have e4:=AS.sub_put θ' (s.refr id j fr) ((s.refr id j fr).st.set id (.xrow e z fr)) o.dst (.tup [])
          rw[e4,r1,c9.sub_set,r2,hs1,hst1]
          simp only[l7.sub,<-e1,q2,rowsOf]
          rfl
         rw[e2]at this
         exact this
        ·cases e1
       ·cases hso
      ·cases hso
     ·cases hso
    ·exact h.elim
   split at h
   ·
    rename_i ro v s' hso
    split at h
    ·rename_i hbb
     obtain⟨θ',a1,f1,e1,hl⟩:=h
     unfold sRow at hso
     split at hso
     ·cases hso
     rename_i φ hφ
     split at hso
     ·rename_i j hargs0
      split at hso
      ·rename_i fn hfn
       split at hso
       ·rename_i t hrt
        split at hso
        ·rename_i elem z1 z2 z3 z4 ht
         split at hso
         ·rename_i ei hei
          cases hso
          simp only[j5,hφ,List.map_cons,List.map_nil,u5]at e1
          split at e1
          ·rename_i c hc
           simp only[Bool.false_eq_true,false_implies,if_true,Option.some.injEq]at e1
           obtain⟨es,q1,q2⟩:=hΦ.row f φ hφ _ _ hc
           have hcall:=q2 T fn t elem _ ei hT (hF f fn hfn) hrt ht rfl hei (s.st.sub θ)
           have hargs2:first.map (AV.sub θ)++args.toList.map (s.sub θ).eval++cap.map (AV.sub θ)=[θ j]:=by
            rw[hargs,hargs0]
            rfl
           rw[<- hargs2]at hcall
           refine Z6.turns ho hop hw hd' hfo' (c:=.ms ((s.st.sub θ).next+5) ei.size 0 es.length) (σ1:=({ s.st.sub θ with next:=(s.st.sub θ).next+7 }:c9).set ((s.st.sub θ).next+5) (.row elem ei.size es)) (Nat.le_add_right _ 7) hcall ?_
           have:=hk _ _ _ _ (Nat.le_succ _) f1 a1 (fun _ _=>rfl) hl
           have e2:(({ s with st:=({ s.st with next:=s.st.next+7 }:c9).set (s.st.next+5) (.xrow elem ei.size fr) }:AS).put o.dst (.ss (s.st.next+5) ei.size fr)).sub θ'=({ s.sub θ with st:=({ s.st.sub θ with next:=(s.st.sub θ).next+7 }:c9).set ((s.st.sub θ).next+5) (.row elem ei.size es) }.put o.dst (.ms ((s.st.sub θ).next+5) ei.size 0 es.length)):=by
            have e4:=AS.sub_put θ' s (({ s.st with next:=s.st.next+7 }:c9).set (s.st.next+5) (.xrow elem ei.size fr)) o.dst (.ss (s.st.next+5) ei.size fr)
            have hs1:s.sub θ'=s.sub θ:=AS.sub_agree a1 hbb
            have hst1:s.st.sub θ'=s.st.sub θ:=congrArg AS.st hs1
            rw[e4,hs1,c9.sub_set]
            have e5:({ s.st with next:=s.st.next+7 }:c9).sub θ'={ s.st.sub θ' with next:=(s.st.sub θ').next+7 }:=rfl
            rw[e5,hst1]
            simp only[l7.sub,AV.sub,<-e1,q1,rowsOf]
            rfl
           rw[e2]at this
           exact this
          ·cases e1
         ·cases hso
        ·cases hso
       ·cases hso
      ·cases hso
     ·cases hso
    ·exact h.elim
   unfold sCall at h
   split at h
   ·exact h.elim
   ·rename_i fn hfn
    split at h
    ·rename_i φ hφ
     replace hφ:=H8.at_fn hφ
     split at h
     ·rename_i pat fr' hpat
      split at h
      ·rename_i hbb
       rw[Bool.and_eq_true]at hbb
       have hle:=Nat.le_of_ble_eq_true hbb.2
       split at h
       ·rename_i cargs hca
        obtain⟨θ1,a1,f1,e1,θ2,a2,f2,e2,hl⟩:=h
        simp only[j5]at e1 e2
        split at e1
        ·rename_i hrows
         rw[(H8.fn_eq hφ).2]at e2
         simp only at e2
         split at e2
         ·rename_i c hc
          split at e2
          ·rename_i hflat
           simp only[Option.some.injEq]at e2
           have hs1:s.sub θ1=s.sub θ:=AS.sub_agree a1 hbb.1
           have hs2:s.sub θ2=s.sub θ:=by rw[AS.sub_agree a2 hbb.1,hs1]
           have hcargs:jY0 (aI0 s.st 50) (first++args.toList.map s.eval++cap)=some cargs:=by
            unfold mk0 at hca
            split at hca
            ·cases hca
            ·split at hca
             ·rename_i l hl2;cases hca;exact hl2
             ·cases hca
           have hmemo:=hΦ.memo f φ (H8.fn_eq hφ).1 (H8.fn_eq hφ).2 _ _ hc
           have htold:Told P f ((first++args.toList.map s.eval++cap).map (AV.sub θ1)) (s.st.sub θ1) c:=by
            refine kv0 hmemo (hflat trivial) (fun G vs w hr hrel=>?_)
            obtain⟨g1,g2⟩:=L9 hcargs
            refine⟨by rw[hr.1];simp[g1],fun j hj hj'=>?_⟩
            have hj1:j<cargs.length:=by simpa using hj
            have hj2:j<(first++args.toList.map s.eval++cap).length:=by omega
            have:=cT0 (θ:=θ1) f1 hrel (fun _=>none) (fun id e z j' ho'=>?_) (fun id j' ho'=>?_) 50 _ _ vs[j] (g2 j hj2 hj1) (by
             have:=hr.2 j (by simpa using hj2) hj'
             rw[List.getElem_map]at this
             exact this)
            ·simpa using this
            ·have hm:=List.all_eq_true.1 hrows j' (at0 ho')
             have hb:=s.bnd_obj hbb.1 ho'
             simp only[l7.bnd,Nat.blt_eq]at hb
             rw[a1 j' hb]
             split at hm
             ·rename_i es he;exact⟨es,he⟩
             ·cases hm
            ·have hm:=List.all_eq_true.1 hrows j' (V8 ho')
             have hb:=s.bnd_obj hbb.1 ho'
             simp only[l7.bnd,AV.bnd,Nat.blt_eq]at hb
             rw[a1 j' hb]
             split at hm
             ·rename_i es he;exact⟨es,he⟩
             ·cases hm
           have hargs1:(first++args.toList.map s.eval++cap).map (AV.sub θ1)=(first++args.toList.map s.eval++cap).map (AV.sub θ):=by
            rw[<- hargs]
            have e:(s.sub θ1).eval=(s.sub θ).eval:=by rw[hs1]
            have hfb:=s.bnd_eval hbb.1 fo
            rw[hfo]at hfb
            simp only[AV.bnd,Bool.and_eq_true]at hfb
            have q1:first.map (AV.sub θ1)=first.map (AV.sub θ):=by rw[<- H6,<-H6,K7 a1 first hfb.1]
            have q2:cap.map (AV.sub θ1)=cap.map (AV.sub θ):=by rw[<- H6,<-H6,K7 a1 cap hfb.2]
            simp only[List.map_append,List.map_map]
            rw[q1,q2]
            congr 2
            apply List.map_congr_left
            intro x _
            have:=congrFun e x
            rw[AS.sub_eval]at this
            exact this
           have hst1:s.st.sub θ1=s.st.sub θ:=c9.sub_agree a1 hbb.1
           rw[hargs1,hst1,<-hargs]at htold
           refine Z6.told ho hop hw hd' hfo' htold ?_
           have:=hk (s.put o.dst pat) fr' θ2 A hle f2 (fun j hj=>(a2 j hj).trans (a1 j hj)) (fun _ _=>rfl) hl
           have e3:=AS.sub_put θ2 s s.st o.dst pat
           have e4:({ s with st:=s.st }:AS)=s:=rfl
           rw[e4]at e3
           rw[e3]at this
           have e5:({ s.sub θ2 with st:=s.st.sub θ2 }:AS)=s.sub θ2:=rfl
           rw[e5,hs2,<-e2]at this
           exact this
          ·cases e2
         ·cases e2
        ·cases e1
       ·rename_i cargs hca
        obtain⟨θ2,a2,f2,e2,hl⟩:=h
        simp only[j5]at e2
        rw[(H8.fn_eq hφ).2]at e2
        simp only at e2
        split at e2
        ·rename_i c hc
         split at e2
         ·simp only[Option.some.injEq]at e2
          have hs2:s.sub θ2=s.sub θ:=AS.sub_agree a2 hbb.1
          have hcargs:cargs=first++args.toList.map s.eval++cap:=by
           unfold mk0 at hca
           split at hca
           ·cases hca;rfl
           ·split at hca<;>cases hca
          rw[hcargs]at hc
          have hmemo:=hΦ.memo f φ (H8.fn_eq hφ).1 (H8.fn_eq hφ).2 _ _ hc (s.st.sub θ)
          rw[<- hargs]at hmemo
          refine Z6.told ho hop hw hd' hfo' hmemo ?_
          have:=hk (s.put o.dst pat) fr' θ2 A hle f2 a2 (fun _ _=>rfl) hl
          have e3:=AS.sub_put θ2 s s.st o.dst pat
          have e4:({ s with st:=s.st }:AS)=s:=rfl
          rw[e4]at e3
          rw[e3]at this
          have e5:({ s.sub θ2 with st:=s.st.sub θ2 }:AS)=s.sub θ2:=rfl
          rw[e5,hs2,<-e2]at this
          exact this
         ·cases e2
        ·cases e2
       ·exact h.elim
      ·exact h.elim
     ·exact h.elim
    ·split at h
     ·rename_i c hb
      split at h
      ·rename_i hcc
       simp only[Bool.and_eq_true,Bool.not_eq_true']at hcc
       obtain⟨⟨c1,c2⟩,c3⟩:=hcc
       have:=hex _ _ _ _ _ _ _ hθ h
       rw[gR0]at this
       refine Z6.inline (n:=n) hT ho hop hw hd' hfo' (hF f fn hfn) c2 hb (by rw[hargs,List.length_map];exact Nat.le_of_ble_eq_true c1) ?_
       rw[hargs]
       refine BWp.mono this ?_
       rintro e s' ⟨e',θ1,S1,fr1,A1,rfl,hfr,f1,a1,b1,rfl,hl⟩
       have hs1:s.sub θ1=s.sub θ:=AS.sub_agree a1 c3
       have fin:∀ v,D0 T fn S1=some v->E7 T Φ Q (kk ({ s with st:=S1.st }.put o.dst v) fr1) θ1 A1->∃ v,D0 T fn (S1.sub θ1)=some v/\Z6 P ops n0 n Qs rest ({ s.sub θ with st:=(S1.sub θ1).st }.put o.dst v):=fun v hv hl=>by
        refine⟨v.sub θ1,cx0 hv,?_⟩
        have:=hk _ _ _ _ hfr f1 a1 b1 hl
        rw[AS.sub_put,hs1]at this
        exact this
       cases e' with
       | exi j=>exact hl.elim
       | nor =>
        simp only at hl
        split at hl
        ·rename_i v hv;exact⟨.inl rfl,fin v hv hl⟩
        ·exact hl.elim
       | ret =>
        simp only at hl
        split at hl
        ·rename_i v hv;exact⟨.inr rfl,fin v hv hl⟩
        ·exact hl.elim
      ·exact h.elim
     ·exact h.elim
  ·exact h.elim
 ·split at h
  ·rename_i v σ' ha
   have ha':=rq0 hθ (sy0 ha)
   have e:(fun x=>(s.eval x).sub θ)=(s.sub θ).eval:=(AS.sub_evalF θ s).symm
   rw[e]at ha'
   refine Z6.plain hT ho hi hw hd' ha' ?_
   have:=hk _ _ _ _ (Nat.le_refl _) hθ (fun _ _=>rfl) (fun _ _=>rfl) h
   rw[AS.sub_put]at this
   exact this
  ·split at h
   ·rename_i ro pat v σ' fr' hr
    split at h
    ·rename_i hbb
     rw[Bool.and_eq_true]at hbb
     obtain⟨θ',a1,f1,e1,hl⟩:=h
     have ha':=ol0 (T:=T) (Φ:=Φ) a1 hbb.1 hθ hr e1
     have hs1:s.sub θ'=s.sub θ:=AS.sub_agree a1 hbb.1
     have hst:s.st.sub θ'=(s.sub θ).st:=by rw[<- hs1];rfl
     rw[hs1,hst]at ha'
     refine Z6.plain hT ho hi hw hd' ha' ?_
     have:=hk _ _ _ _ (Nat.le_of_ble_eq_true hbb.2) f1 a1 (fun _ _=>rfl) hl
     rw[AS.sub_put,hs1]at this
     exact this
    ·exact h.elim
   ·split at h
    ·rename_i ro s' hst
     split at h
     ·rename_i hbb
      obtain⟨θ',a1,f1,e1,hl⟩:=h
      obtain⟨σ2,ha',hs'⟩:=pV0 (T:=T) (Φ:=Φ) a1 hbb hst e1
      have hs1:s.sub θ'=s.sub θ:=AS.sub_agree a1 hbb
      have hst2:s.st.sub θ'=(s.sub θ).st:=by rw[<- hs1];rfl
      rw[hs1,hst2]at ha'
      refine Z6.plain hT ho hi hw hd' (ha' _) ?_
      have:=hk _ _ _ _ (Nat.le_succ _) f1 a1 (fun _ _=>rfl) hl
      have e2:(s'.put o.dst (.sc undef)).sub θ'=({ s.sub θ with st:=σ2 }.put o.dst (.sc undef)):=by
       have e4:=AS.sub_put θ' s' s'.st o.dst (.sc undef)
       rw[J0]at e4
       have e5:({ s'.sub θ' with st:=s'.st.sub θ' }:AS)=s'.sub θ':=rfl
       rw[e5,hs',hs1]at e4
       exact e4
      rw[e2]at this
      exact this
     ·exact h.elim
    ·exact h.elim
include hT hΦ hF in
theorem qs0{ex:Exe}(hex:ExOk P T Φ Q ex){ops:Array Oper}{n0 n i:Nat}{rest:List Nat}{o:Oper}(ho:ops[i]?=some o)(hi:i∉rest){Qs:AS->Prop}:∀ (m:Nat) {s:AS} {fr:Nat} {kk:KS} {θ:Nat->AV} {A:Nat->List AV->Prop} (hθ:Fit θ)
  (hw:E3 ops (s.sub θ) o=some true) (hd:S8 s.n o.dst=true)
  (hk:∀ s' fr' θ' A',fr<=fr'->Fit θ'->(∀ j,j<fr->θ' j=θ j)->(∀ l,l<fr->A' l=A l)->E7 T Φ Q (kk s' fr') θ' A'->Z6 P ops n0 n Qs rest (AS.sub θ' s'))
  (h:E7 T Φ Q (sFz T Φ F ex ops (n0+i) o fr kk m s) θ A),Z6 P ops n0 n Qs (i::rest) (s.sub θ)
 | 0,s,fr,kk,θ,A,hθ,hw,hd,hk,h=>pM0 hT hΦ hF hex ho hi hθ hw hd hk h
 | m+1,s,fr,kk,θ,A,hθ,hw,hd,hk,h=>by
  unfold sFz at h
  split at h
  ·rename_i a x hfz
   have hobj:s.st.objs a=some x:=by
    unfold frzOf at hfz
    split at hfz
    ·split at hfz
     ·rename_i hx;cases hfz;exact hx
     ·cases hfz
    ·cases hfz
   split at h
   ·rename_i hbb
    split at h
    ·rename_i hw2
     obtain⟨θ1,a1,f1,e1,hl⟩:=h
     simp only[j5]at e1
     split at e1
     ·rename_i hrows
      have hs1:s.sub θ1=s.sub θ:=AS.sub_agree a1 hbb
      rw[<- hs1]
      refine Z6.freeze f1 hobj (iy0 hbb hobj a1 hrows) ?_
      exact qs0 hex ho hi m f1 (aF0 θ1 hw2) hd (fun s' fr' θ' A' q1 q2 q3 q4 q5=>hk s' fr' θ' A' q1 q2 (fun j hj=>(q3 j hj).trans (a1 j hj)) q4 q5) hl
     ·cases e1
    ·exact h.elim
   ·exact h.elim
  ·exact pM0 hT hΦ hF hex ho hi hθ hw hd hk h
include hT in
theorem rn0{G:j4}{σ:c9}{w:World}(h:Rel G σ w){t:TypeId}{id:Nat}(hid:G.pl id=none)(hlt:id<σ.next){sz:Nat}{z:Value}{bt:Nat}{fl:Option Nat}(ht:T t=some ⟨.string,sz,z,bt,fl⟩){b:ByteArray}{u:Value}(hx:Rep G (.sc (.string b)) u) :
  J4 G σ w (σ.set id (.siter b 0)) id (.it id) ((Instr.range t u).run P w):=by
 cases hx
 simp only[Instr.range,Sem.run_bind,B3 hT ht,Result.andThen_ok,Sem.run_pure,run_newObj]
 let q:Pl:={ block:=w.heap.size,size:=1,cap:=1 }
 have hr:=h.push (.stringIter b 0) id hid hlt q rfl rfl (.siter b 0) rfl
 exact J4.place (p:=q) hid (.it id q (j4.place_same _ _ _)) hr (Fr.push _ id hid q (fun _=>rfl) _ w.drawn)
theorem nm0{G:j4}{σ:c9}{w:World}(h:Rel G σ w){id a:Nat}{b:ByteArray}{pos:Nat}(ho:σ.objs a=some (.siter b pos)){ty:TypeId}{u:Value}(hx:Rep G (.it a) u) :
  (pos<b.size->J4 G σ w (σ.set a (.siter b (pos+(Utf8.decode b pos).2))) id (.tup [.sc (.bool true),.sc (.int .i64 pos),.sc (.int .i32 (Utf8.decode b pos).1)]) ((Instr.next u true ty).run P w)) /\
  (¬ pos<b.size->J4 G σ w σ id (.tup [.sc (.bool false)]) ((Instr.next u true ty).run P w)):=by
 cases hx with
 | it _ p hp =>
 have hv:p.virt=false:=by
  rcases h.lies ho hp with ⟨_,_,_,e2⟩ | ⟨e2,_⟩
  ·cases e2
  ·exact e2
 obtain⟨_,_,hobj⟩:=h.real ho hp hv
 have hb:w.heap[p.block]?=some (.stringIter b pos):=hobj
 have O3:(getObj p.block).run P w=.ok (.stringIter b pos) w:=by simp[getObj,Sem.run,hb]
 have hset:∀ o,(setObj p.block o).run P w=.ok () (D6 w p.block o):=fun o=>cW0 hb (by intro _ _ _ h;cases h)
 constructor
 ·intro hlt
  refine⟨G,.tuple #[.bool true,.int .i64 pos,.int .i32 (Utf8.decode b pos).1],D6 w p.block (.stringIter b (pos+(Utf8.decode b pos).2)),.refl G,fun _ _ h=>h,?_,?_,?_,?_⟩
  ·simp only[Instr.next,Sem.run_bind,O3,Result.andThen_ok,hlt,if_true,hset,Sem.run_pure]
   rfl
  ·exact .tup _ _ rfl (fun i hi hi'=>by
    match i,hi with
    | 0,_=>exact .sc _
    | 1,_=>exact .sc _
    | 2,_=>exact .sc _)
  ·exact h.write ho hp hv _ _ rfl rfl rfl (F9 _ _ _) (fun k hk=>E2 _ _ _ _ hk) (R3 _ _ _ _ hb) rfl
  ·exact Fr.write ho hp hv _ (F9 _ _ _) (fun k hk=>E2 _ _ _ _ hk)
 ·intro hlt
  refine⟨G,.tuple #[.bool false],w,.refl G,fun _ _ h=>h,?_,.tup _ _ rfl (fun i hi hi'=>?_),h,.refl _ _ _⟩
  ·simp only[Instr.next,Sem.run_bind,O3,Result.andThen_ok,hlt,if_false,Sem.run_pure]
  ·have:i=0:=by simp at hi;omega
   subst this
   exact .sc _
theorem Z6.step{ops:Array Oper}{n0 n i:Nat}{rest:List Nat}{o:Oper}{s:AS}{Q:AS->Prop}{v:AV}{σ':c9}(ho:ops[i]?=some o)(hi:i∉rest)(hw:E3 ops s o=some true)(hd:S8 s.n o.dst=true)(hnx:σ'.next=s.st.next)
  (ha:∀ (G:j4) (w:World) (ev:Operand->Value),Rel G s.st w->(∀ x,Rep G (s.eval x) (ev x))->G.pl (n0+i)=none->n0+i<s.st.next->aL0 G s.st w σ' (n0+i) v ((execOp ev o).run P w)) (h:Z6 P ops n0 n Q rest ({ s with st:=σ' }.put o.dst v)):Z6 P ops n0 n Q (i::rest) s:=by
 intro G a w hr hf hn hn2
 have hlt:i<ops.size:=(Array.getElem?_eq_some_iff.1 ho).1
 simp only[wpOps,ho,S7 hr hw,if_true]
 left
 obtain⟨G',u,w',h1,h2,h3,h4,h5,hfr⟩:=ha G w a.eval hr.rel hr.eval (hf i (by simp)).2 (by omega)
 have hne:∀ j∈rest,n0+j≠n0+i:=fun j hj e=>hi (by have e':j=i:=Nat.add_left_cancel e;rw[<- e'];exact hj)
 have key:=h G' (a.put o.dst u) w' (hr.put h1 h5 h4 hd) (fun j hj=>⟨(hf j (by simp[hj])).1,h2 _ (hne j hj) (hf j (by simp[hj])).2⟩) (by simp;omega) hn2
 have ht:S9 n G s.st w G' σ' w':=⟨h1.w0,h1.imm,fun k hk=>by
  cases hp:G.pl k with
  | none=>exact h2 k (by omega) hp
  | some p=>exact h1.pl k p hp,by omega,hfr⟩
 have key':=C9 (P:=P) (ops:=ops) (Q':=fun e a' w'=>e=.normal/\∃ s' G',S9 n G s.st w G' s'.st w'/\aG0 G' s' a' w'/\Q s') (fun e a' w' ⟨e1,s',G2,b1,b2,b3⟩ =>
  ⟨e1,s',G2,ht.trans (by simpa using b1) (Nat.le_refl _),b2,b3⟩) rest _ _ key
 unfold Oper.wp
 rcases h3 with h3 | ⟨h3,h6⟩
 ·rw[h3];exact key'
 ·rw[h3];subst h6;exact key'
include hT hΦ hF in
theorem uw0{ex:Exe}(hex:ExOk P T Φ Q ex){ops:Array Oper}{n0 n i:Nat}{rest:List Nat}{o:Oper}(ho:ops[i]?=some o)(hi:i∉rest){Qs:AS->Prop}{s:AS}{fr:Nat}{kk:KS}{θ:Nat->AV}{A:Nat->List AV->Prop}(hθ:Fit θ)
  (hw:E3 ops (s.sub θ) o=some true) (hd:S8 s.n o.dst=true)
  (hk:∀ s' fr' θ' A',fr<=fr'->Fit θ'->(∀ j,j<fr->θ' j=θ j)->(∀ l,l<fr->A' l=A l)->E7 T Φ Q (kk s' fr') θ' A'->Z6 P ops n0 n Qs rest (AS.sub θ' s'))
  (h:E7 T Φ Q (sIt T Φ F ex ops (n0+i) o fr kk s) θ A):Z6 P ops n0 n Qs (i::rest) (s.sub θ):=by
 have hd':S8 (s.sub θ).n o.dst=true:=hd
 unfold sIt at h
 split at h
 ·rename_i t x hop
  split at h
  ·rename_i sz z bt fl ht
   split at h
   ·rename_i j hj
    split at h
    ·rename_i hbb
     obtain⟨θ1,a1,f1,e1,hl⟩:=h
     have hs1:s.sub θ1=s.sub θ:=AS.sub_agree a1 hbb
     simp only[j5]at e1
     split at e1
     ·rename_i b hb
      rw[u5]at hb
      have hbnd:j<fr:=by have:=s.bnd_eval hbb x;rw[hj]at this;simpa[AV.bnd,Nat.blt_eq]using this
      have hst:s.st.sub θ1=(s.sub θ).st:=by rw[<- hs1];rfl
      refine Z6.step (σ':=(s.sub θ).st.set (n0+i) (.siter b 0)) (v:=.it (n0+i)) ho hi hw hd' rfl (fun G w ev hr hev hpl hlt=>?_) ?_
      ·have hx:=hev x
       rw[AS.sub_eval,hj,u5,hb]at hx
       simp only[execOp,hop]
       exact aL0.of (rn0 hT hr hpl hlt ht hx)
      ·have:=hk _ _ _ _ (Nat.le_refl _) f1 a1 (fun _ _=>rfl) hl
       rw[AS.sub_put,hs1,c9.sub_set,hst]at this
       have e2:(l7.xiter (.sy j) (.sc (.int .i64 0))).sub θ1=.siter b 0:=by
        simp only[l7.sub,u5,J0,a1 j hbnd,hb,strOf,Y9]
        rfl
       rw[e2]at this
       exact this
     ·cases e1
    ·exact h.elim
   ·exact h.elim
  ·exact qs0 hT hΦ hF hex ho hi 3 hθ hw hd hk h
 ·rename_i it hop
  split at h
  ·rename_i a ha
   split at h
   ·rename_i st p hobj
    split at h
    ·rename_i hbb
     obtain⟨θ1,a1,f1,e1,hl⟩:=h
     have hs1:s.sub θ1=s.sub θ:=AS.sub_agree a1 hbb
     have hbo:=s.bnd_obj hbb hobj
     simp only[l7.bnd,Bool.and_eq_true]at hbo
     simp only[j5]at e1
     split at e1
     ·rename_i b hb
      split at e1
      ·rename_i n hn
       simp only[Option.some.injEq,u5]at e1
       have hobj':(s.sub θ).st.objs a=some (.siter b n.toNat):=by
        rw[AS.sub_st,c9.sub_objs,hobj]
        simp only[Option.map_some,l7.sub,hb,hn,strOf,Y9]
       rcases hl with ⟨t1,hl⟩ | ⟨t1,hl⟩
       ·
        rw[<- e1]at t1
        simp only[AV.sc.injEq,Value.bool.injEq,decide_eq_true_eq]at t1
        obtain⟨θ2,a2,f2,e2,hl⟩:=hl
        have hb1:st.sub θ1=.sc (.string b):=by rw[sub_agree a1 st hbo.1,hb]
        have hn1:p.sub θ1=.sc (.int .i64 n):=by rw[sub_agree a1 p hbo.2,hn]
        simp only[j5,hb1,hn1,decide_eq_true t1,Option.some.injEq,jl0,List.map_cons,List.map_nil,u5,AV.tup.injEq,List.cons.injEq,and_true]at e2
        obtain⟨q1,q2,q3⟩:=e2
        have a12:∀ j,j<fr->θ2 j=θ j:=fun j hj=>(a2 j (by omega)).trans (a1 j hj)
        have hs2:s.sub θ2=s.sub θ:=AS.sub_agree a12 hbb
        have hst:s.st.sub θ2=(s.sub θ).st:=by rw[<- hs2];rfl
        refine Z6.step (σ':=(s.sub θ).st.set a (.siter b (n.toNat+(Utf8.decode b n.toNat).2))) (v:=.tup [.sc (.bool true),.sc (.int .i64 n.toNat),.sc (.int .i32 (Utf8.decode b n.toNat).1)]) ho hi hw hd' rfl (fun G w ev hr hev hpl hlt=>?_) ?_
        ·have hx:=hev it
         rw[AS.sub_eval,ha,pU0]at hx
         simp only[execOp,hop]
         exact aL0.of ((nm0 hr hobj' hx).1 t1)
        ·have:=hk _ _ _ _ (show fr<=fr+4 by omega) f2 a12 (fun _ _=>rfl) hl
         rw[AS.sub_put,hs2,c9.sub_set,hst]at this
         have e3:(l7.xiter st (.sy (fr+3))).sub θ2=.siter b (n.toNat+(Utf8.decode b n.toNat).2):=by
          simp only[l7.sub,u5,sub_agree a12 st hbo.1,hb,strOf,<-q3,Y9]
          rfl
         rw[e3]at this
         simp only[jl0,List.map_cons,List.map_nil,J0,u5,<-q1,<-q2]at this
         exact this
       ·
        rw[<- e1]at t1
        simp only[AV.sc.injEq,Value.bool.injEq,decide_eq_false_iff_not]at t1
        refine Z6.step (σ':=(s.sub θ).st) (v:=.tup [.sc (.bool false)]) ho hi hw hd' rfl (fun G w ev hr hev hpl hlt=>?_) ?_
        ·have hx:=hev it
         rw[AS.sub_eval,ha,pU0]at hx
         simp only[execOp,hop]
         exact aL0.of ((nm0 hr hobj' hx).2 t1)
        ·have:=hk _ _ _ _ (show fr<=fr+1 by omega) f1 a1 (fun _ _=>rfl) hl
         have e3:=AS.sub_put θ1 s s.st o.dst (.tup [.sc (.bool false)])
         have e4:({ s with st:=s.st }:AS)=s:=rfl
         rw[e4]at e3
         rw[e3]at this
         have e5:({ s.sub θ1 with st:=s.st.sub θ1 }:AS)=s.sub θ1:=rfl
         rw[e5,hs1]at this
         rw[jl0,List.map_cons,List.map_nil,J0]at this
         exact this
      ·cases e1
     ·cases e1
    ·exact h.elim
   ·exact h.elim
  ·exact h.elim
 ·exact qs0 hT hΦ hF hex ho hi 3 hθ hw hd hk h
include hT hΦ hF in
theorem lS0{ex:Exe}(hex:ExOk P T Φ Q ex){ops:Array Oper}{n0 n:Nat}:∀ (l:List Oper) (i:Nat) (s:AS) (fr:Nat) (k:KS) (θ:Nat->AV) (A:Nat->List AV->Prop),(∀ j:Nat,l[j]?=ops[i+j]?)->i+l.length=ops.size->Fit θ ->
  E7 T Φ Q (qL0 T Φ F ex ops n0 l i s fr k) θ A->Z6 P ops n0 n (vE0 T Φ Q fr θ A k) (List.range' i l.length) (s.sub θ)
 | [],i,s,fr,k,θ,A,_,_,hθ,h=>Z6.nil ⟨θ,s,fr,A,Nat.le_refl _,hθ,fun _ _=>rfl,fun _ _=>rfl,rfl,h⟩
 | o::rest,i,s,fr,k,θ,A,hl,hlen,hθ,h=>by
  have ho:ops[i]?=some o:=by have:=hl 0;simpa using this.symm
  have hl':∀ j:Nat,rest[j]?=ops[i+1+j]?:=fun j=>by have:=hl (j+1);simpa[Nat.add_assoc,Nat.add_comm 1 j]using this
  have hlen':i+1+rest.length=ops.size:=by simp at hlen;omega
  have hnot:i∉List.range' (i+1) rest.length:=by simp[List.mem_range'_1];omega
  simp only[List.length_cons,List.range'_succ]
  have ih:=fun s' fr' θ' A' (hfr:fr<=fr') (hf':Fit θ') (ha:∀ j,j<fr->θ' j=θ j) (hA:∀ l,l<fr->A' l=A l) (hh:E7 T Φ Q (qL0 T Φ F ex ops n0 rest (i+1) s' fr' k) θ' A') =>
   (show Z6 P ops n0 n (vE0 T Φ Q fr θ A k) (List.range' (i+1) rest.length) (AS.sub θ' s')from by
    have h1:=lS0 (n:=n) hex rest (i+1) s' fr' k θ' A' hl' hlen' hf' hh
    intro G a w g1 g2 g3 g4
    refine C9 ?_ _ _ _ (h1 G a w g1 g2 g3 g4)
    rintro e a' w' ⟨e1,s2,G2,b1,b2,θ2,S2,fr2,A2,q1,q2,q3,q4,q5,q6⟩
    exact⟨e1,s2,G2,b1,b2,θ2,S2,fr2,A2,Nat.le_trans hfr q1,q2,fun j hj=>(q3 j (by omega)).trans (ha j hj),fun l hl=>(q4 l (by omega)).trans (hA l hl),q5,q6⟩)
  unfold qL0 at h
  split at h
  ·exact h.elim
  ·rename_i hd
   split at h
   ·rename_i hw
    exact uw0 hT hΦ hF hex ho hnot hθ (aF0 θ hw) hd ih h
   ·rename_i hw
    refine Z6.skip ho (aF0 θ hw) hd ?_
    have:=ih _ _ _ _ (Nat.le_refl _) hθ (fun _ _=>rfl) (fun _ _=>rfl) h
    have e3:=AS.sub_put θ s s.st o.dst (.sc undef)
    have e4:({ s with st:=s.st }:AS)=s:=rfl
    have e5:({ s.sub θ with st:=s.st.sub θ }:AS)=s.sub θ:=rfl
    rw[e4,e5,J0]at e3
    rw[e3]at this
    exact this
   ·rename_i hw
    split at h
    ·rename_i j want hg
     have hwant:∀ b,θ j=.sc (.bool b)->E3 ops (s.sub θ) o=some (b==want):=fun b hb=>by
      unfold ge0 at hg
      unfold E3
      split at hg
      ·cases hg
      ·rename_i j' w' hgu
       rw[hgu]
       simp only
       split at hg
       ·rename_i d hdd
        rw[hdd]
        simp only
        split at hg
        ·rename_i hlt
         rw[Nat.blt_eq]at hlt
         rw[AS.sub_n,if_pos hlt,AS.sub_get]
         split at hg
         ·rename_i i' hi'
          cases hg
          rw[hi',u5,hb]
         ·cases hg
        ·cases hg
       ·cases hg
     have both:∀ b:Bool,θ j=.sc (.bool b)->E7 T Φ Q (match b==want with
       | true=>sIt T Φ F ex ops (n0+i) o fr (fun s' fr'=>qL0 T Φ F ex ops n0 rest (i+1) s' fr' k) (s.ssub (ap0 j b))
       | false=>qL0 T Φ F ex ops n0 rest (i+1) ((s.ssub (ap0 j b)).put o.dst (.sc undef)) fr k) θ A->Z6 P ops n0 n (vE0 T Φ Q fr θ A k) (i::List.range' (i+1) rest.length) (s.sub θ):=fun b hb hh=>by
      have hin:=ez0 (θ:=θ) (j:=j) (b:=b) hb s
      have hwb:=hwant b hb
      rw[<- hin]at hwb ⊢
      split at hh
      ·rename_i hbw
       rw[hbw]at hwb
       exact uw0 hT hΦ hF hex ho hnot hθ hwb hd ih hh
      ·rename_i hbw
       rw[hbw]at hwb
       refine Z6.skip ho hwb hd ?_
       have:=ih _ _ _ _ (Nat.le_refl _) hθ (fun _ _=>rfl) (fun _ _=>rfl) hh
       have e3:=AS.sub_put θ (s.ssub (ap0 j b)) (s.ssub (ap0 j b)).st o.dst (.sc undef)
       have e4:({ s.ssub (ap0 j b)with st:=(s.ssub (ap0 j b)).st }:AS)=s.ssub (ap0 j b):=rfl
       have e5:({ (s.ssub (ap0 j b)).sub θ with st:=(s.ssub (ap0 j b)).st.sub θ }:AS)=(s.ssub (ap0 j b)).sub θ:=rfl
       rw[e4,e5,J0]at e3
       rw[e3]at this
       exact this
     rcases h with ⟨hb,hh⟩ | ⟨hb,hh⟩
     ·exact both true hb hh
     ·exact both false hb hh
    ·exact h.elim
theorem BWp.convEnd'{n:Nat}{c:Code}{Q':Exit->AS->Prop}{s:AS}(h:BWp P n c (fun e s1=>(∃ ι s2,Ren ι n s2 s1/\Q' e s2)\/Q' e s1) s):BWp P n c Q' s:=by
 intro hn G a w hr
 refine wp_mono (h hn G a w hr) ?_
 rintro e a' w' ⟨s1,G1,b1,b2,⟨ι,s2,b3,b4⟩ | b4⟩
 ·obtain⟨h1,h2⟩:=b3.rel b2
  exact⟨s2,_,b1.trans h2 (Nat.le_refl _),h1,b4⟩
 ·exact⟨s1,G1,b1,b2,b4⟩
theorem gx0(θ:Nat->AV)(σ:c9):∀ (is:List Nat) (t:c9),(cz0 σ is t).sub θ=cz0 (σ.sub θ) is (t.sub θ)
 | [],t=>rfl
 | i::is,t=>by
  simp only[cz0]
  rw[gx0 θ σ is,c9.sub_objs]
  cases σ.objs i with
  | none=>rfl
  | some o=>simp only[Option.map_some];rw[c9.sub_set]
theorem kP0(θ:Nat->AV)(σ:c9)(ids:List Nat):(small σ ids).sub θ=small (σ.sub θ) ids:=gx0 θ σ ids _
theorem bi0(θ:Nat->AV)(σ1:c9):∀ (is:List Nat) (σ:c9),(Y3 σ1 is σ).sub θ=Y3 (σ1.sub θ) is (σ.sub θ)
 | [],σ=>rfl
 | i::is,σ=>by
  simp only[Y3]
  rw[bi0 θ σ1 is,c9.sub_objs]
  cases σ1.objs i with
  | none=>simp only[Option.map_none];rw[c9.sub_del]
  | some o=>simp only[Option.map_some];rw[c9.sub_set]
theorem qQ0(θ:Nat->AV)(σ:c9)(ids:List Nat):saved (σ.sub θ) ids=(saved σ ids).map fun p=>(p.1,p.2.sub θ):=by
 unfold saved
 rw[List.map_filterMap]
 congr 1
 funext id
 rw[c9.sub_objs]
 cases σ.objs id<;>rfl
theorem iY0(θ:Nat->AV):∀ (l:List (Nat×l7)) (σ:c9),(V3 l σ).sub θ=V3 (l.map fun p=>(p.1,p.2.sub θ)) (σ.sub θ)
 | [],σ=>rfl
 | p::l,σ=>by simp only[V3,List.map_cons];rw[iY0 θ l,c9.sub_del]
theorem iT0(θ:Nat->AV):∀ (l:List (Nat×l7)) (σ:c9),(aV0 l σ).sub θ=aV0 (l.map fun p=>(p.1,p.2.sub θ)) (σ.sub θ)
 | [],σ=>rfl
 | p::l,σ=>by simp only[aV0,List.map_cons];rw[iT0 θ l,c9.sub_set]
theorem mU0(θ:Nat->AV)(σ:c9)(ids:List Nat):(hS0 σ ids).sub θ=hS0 (σ.sub θ) ids:=by
 unfold hS0
 rw[qQ0]
 have r1:=iT0 θ (saved σ ids) { V3 (saved σ ids) σ with low:=σ.next }
 have r2:=iY0 θ (saved σ ids) σ
 have r3:c9.sub θ { V3 (saved σ ids) σ with low:=σ.next }={ c9.sub θ (V3 (saved σ ids) σ)with low:=σ.next }:=rfl
 have r4:∀ (x:c9) (l:Nat),c9.sub θ { x with low:=l }={ c9.sub θ x with low:=l }:=fun _ _=>rfl
 rw[r4,r1,r3,r2];rfl
theorem np0{θ:Nat->AV}(hθ:Fit θ)(v:AV):(v.sub θ).ids0=v.ids0:=by
 cases v with
 | sy i=>simpa[AV.ids0]using(hθ i).ids0
 | _=>simp[AV.ids0]
theorem oa0{θ:Nat->AV}(hθ:Fit θ)(s:AS)(op:Op):cf0 (s.sub θ).eval op=cf0 s.eval op:=by
 cases op with
 | call c =>
  obtain⟨callee,args,ts⟩:=c
  cases callee<;>simp[cf0,AS.sub_eval,np0 hθ]
 | _=>simp[cf0,AS.sub_eval,np0 hθ]
def bJ0(Φ:H8)(f:FuncId)(args:List AV)(σ:c9):Option (AV×c9):=match Φ.fn f with
 | some φ=>match φ args with
  | some c=>some (c,σ)
  | none=>none
 | none=>none
theorem oe0{ops:Array Oper}{n0 N mask i:Nat}{bar:Bool}{o:Oper}(hbar:bar=true->fh0 o.op=true){s:AS}{fr:Nat}{kk:KD}{θ:Nat->AV}{A:Nat->List AV->Prop}(hθ:Fit θ)(hw:E3 ops (s.sub θ) o=some true)(hd:S8 s.n o.dst=true)
  (h:E7 T Φ Q (si0 T Φ F n0 N mask i bar o s fr kk) θ A):∃ θ' S' fr' f,fr<=fr'/\Fit θ'/\(∀ j,j<fr->θ' j=θ j)/\fO0 T (bJ0 Φ) ops n0 N mask i bar (s.sub θ) o=some (AS.sub θ' S',f)/\E7 T Φ Q (kk S' fr' f) θ' A:=by
 have hd':S8 (s.sub θ).n o.dst=true:=hd
 unfold si0 at h
 split at h
 ·rename_i fo args ts hop
  split at h
  ·rename_i f first cap hfo
   have hfo':(s.sub θ).eval fo=.fn (.func f) (first.map (AV.sub θ)) (cap.map (AV.sub θ)):=by rw[AS.sub_eval,hfo,qV0]
   have hargs:first.map (AV.sub θ)++args.toList.map (s.sub θ).eval++cap.map (AV.sub θ)=(first++args.toList.map s.eval++cap).map (AV.sub θ):=by
    simp only[List.map_append,List.map_map]
    congr 2
    apply List.map_congr_left
    intro x _
    exact AS.sub_eval θ s x
   unfold ul0 at h
   split at h
   ·rename_i fn φ hfn hφ
    split at h
    ·rename_i pat fr' hpat
     split at h
     ·rename_i hbb
      simp only[Bool.and_eq_true]at hbb
      obtain⟨⟨c1,c2⟩,c3⟩:=hbb
      obtain⟨θ',a1,f1,e1,hl⟩:=h
      simp only[j5,(H8.fn_eq hφ).2]at e1
      split at e1
      ·rename_i c hc
       split at e1
       ·simp only[Option.some.injEq]at e1
        have hs1:s.sub θ'=s.sub θ:=AS.sub_agree a1 c1
        have hst1:s.st.sub θ'=s.st.sub θ:=c9.sub_agree a1 c1
        have hcl:∀ σ,bJ0 Φ f ((first++args.toList.map s.eval++cap).map (AV.sub θ)) σ=some (c,σ):=fun σ=>by simp only[bJ0,hφ,hc]
        cases bar with
        | true =>
         simp only at hl
         refine⟨θ',s.put o.dst pat,fr',_,Nat.le_of_ble_eq_true c2,f1,a1,?_,hl⟩
         unfold fO0
         rw[hw,hd']
         simp only[hop,hfo',if_true]
         rw[hargs,hcl]
         simp only[Nat.le_refl,if_true]
         have e3:=AS.sub_put θ' s s.st o.dst pat
         have e4:({ s with st:=s.st }:AS)=s:=rfl
         have e5:({ s.sub θ' with st:=s.st.sub θ' }:AS)=s.sub θ':=rfl
         rw[e4,e5,hs1,<-e1]at e3
         rw[e3]
        | false =>
         simp only at hl
         refine⟨θ',_,fr',_,Nat.le_of_ble_eq_true c2,f1,a1,?_,hl⟩
         unfold fO0
         rw[hw,hd']
         simp only[hop,hfo',Bool.false_eq_true,if_false]
         rw[hargs,hcl]
         show (if _ then some ({ s.sub θ with st:=hS0 (s.sub θ).st (bf0 n0 N mask) }.put o.dst c,(⟨[],[],true,(s.sub θ).st.next,false⟩:Inf))else none)=_
         rw[if_pos ⟨Nat.le_refl _,by rw[show ∀ (x:c9) (l:Nat),({ x with low:=l }:c9).next=x.next from fun _ _=>rfl,dK0];exact Nat.le_refl _⟩]
         rw[AS.sub_put,<-e1,mU0,hst1,hs1]
         rfl
       ·cases e1
      ·cases e1
     ·exact h.elim
    ·exact h.elim
   ·exact h.elim
  ·exact h.elim
 ·rename_i hncall
  have hstep:∀ (θ1:Nat->AV) (v:AV) (σ1:c9),aop T (s.sub θ1).eval (small (s.st.sub θ1) (cf0 (s.sub θ1).eval o.op)) (n0+i) o.op=some (v,σ1)->s.sub θ1=s.sub θ ->
    fO0 T (bJ0 Φ) ops n0 N mask i bar (s.sub θ) o=some ({ s.sub θ1 with st:=(match σ1.objs (n0+i)with
     | some x=>(if isE o.op then Y3 σ1 (cf0 (s.sub θ1).eval o.op) (s.st.sub θ1)else (s.st.sub θ1)).set (n0+i) x
     | none=>(if isE o.op then Y3 σ1 (cf0 (s.sub θ1).eval o.op) (s.st.sub θ1)else (s.st.sub θ1))) }.put o.dst v,⟨cf0 (s.sub θ1).eval o.op,if isE o.op then cf0 (s.sub θ1).eval o.op else [],false,0,false⟩):=fun θ1 v σ1 ha hs=>by
   have hst:s.st.sub θ1=(s.sub θ).st:=by rw[<- hs];rfl
   rw[hst,hs]at ha ⊢
   unfold fO0
   rw[hw,hd']
   simp only
   rw[ha]
   rfl
  split at h
  ·rename_i v σ1 ha
   have ha':=rq0 hθ (sy0 ha)
   have e:(fun x=>(s.eval x).sub θ)=(s.sub θ).eval:=(AS.sub_evalF θ s).symm
   rw[e,kP0]at ha'
   have hft:=oa0 hθ s o.op
   refine⟨θ,_,fr,_,Nat.le_refl _,hθ,fun _ _=>rfl,?_,h⟩
   have:=hstep θ (v.sub θ) (σ1.sub θ) (by rw[hft];exact ha') rfl
   rw[this,hft,AS.sub_put]
   congr 3
   rw[c9.sub_objs]
   cases σ1.objs (n0+i)with
   | none =>
    simp only[Option.map_none]
    split
    ·rw[bi0]
    ·rfl
   | some x =>
    simp only[Option.map_some]
    rw[c9.sub_set]
    split
    ·rw[bi0]
    ·rfl
  ·split at h
   ·rename_i ro pat v σ1 fr' hr
    split at h
    ·rename_i hbb
     simp only[Bool.and_eq_true]at hbb
     obtain⟨⟨hb1,hb2⟩,hb3⟩:=hbb
     obtain⟨θ',a1,f1,e1,hl⟩:=h
     have hs1:s.sub θ'=s.sub θ:=AS.sub_agree a1 hb1
     have h0:=ol0 (T:=T) (Φ:=Φ) (s:={ s with st:=small s.st (cf0 s.eval o.op) }) a1 hb2 hθ hr e1
     have e0:(({ s with st:=small s.st (cf0 s.eval o.op) }:AS).sub θ').eval=(s.sub θ').eval:=by
      funext x
      rw[AS.sub_eval,AS.sub_eval]
      cases x<;>rfl
     have hft:=oa0 f1 s o.op
     rw[e0,kP0]at h0
     have:=hstep θ' (v.sub θ') (σ1.sub θ') (by rw[hft];exact h0) hs1
     refine⟨θ',_,fr',_,Nat.le_of_ble_eq_true hb3,f1,a1,?_,hl⟩
     rw[this,hft,AS.sub_put]
     congr 3
     rw[c9.sub_objs]
     cases σ1.objs (n0+i)with
     | none =>
      simp only[Option.map_none]
      split
      ·rw[bi0]
      ·rfl
     | some x =>
      simp only[Option.map_some]
      rw[c9.sub_set]
      split
      ·rw[bi0]
      ·rfl
    ·exact h.elim
   ·exact h.elim
theorem jO0{ops:Array Oper}{n0 N:Nat}{masks:List Nat}:∀ (l:List Oper) (i:Nat) (s:AS) (fr:Nat) (acc:List Inf) (k:AS->Nat->List Inf->RT) (θ:Nat->AV) (A:Nat->List AV->Prop),Fit θ ->
  E7 T Φ Q (gN0 T Φ F ops n0 N masks l i s fr acc k) θ A->∃ θ' S' fr' fs,fr<=fr'/\Fit θ'/\(∀ j,j<fr->θ' j=θ j)/\tZ0 T (bJ0 Φ) ops n0 N masks l i (s.sub θ)=some (AS.sub θ' S',fs)/\E7 T Φ Q (k S' fr' (acc++fs)) θ' A
 | [],i,s,fr,acc,k,θ,A,hθ,h=>⟨θ,s,fr,[],Nat.le_refl _,hθ,fun _ _=>rfl,rfl,by rw[List.append_nil];exact h⟩
 | o::rest,i,s,fr,acc,k,θ,A,hθ,h=>by
  have fin:∀ (s1:AS) (θ1:Nat->AV) (fr1:Nat) (f:Inf),fr<=fr1->Fit θ1->(∀ j,j<fr->θ1 j=θ j)->fO0 T (bJ0 Φ) ops n0 N (masks.getD i 0) i (fh0 o.op&&oA0 ops masks i) (s.sub θ) o=some (AS.sub θ1 s1,f) ->
    E7 T Φ Q (gN0 T Φ F ops n0 N masks rest (i+1) s1 fr1 (acc++[f]) k) θ1 A->∃ θ' S' fr' fs,fr<=fr'/\Fit θ'/\(∀ j,j<fr->θ' j=θ j)/\tZ0 T (bJ0 Φ) ops n0 N masks (o::rest) i (s.sub θ)=some (AS.sub θ' S',fs)/\E7 T Φ Q (k S' fr' (acc++fs)) θ' A:=by
   intro s1 θ1 fr1 f hfr hf1 ha1 hst hl
   obtain⟨θ2,S2,fr2,fs,g1,g2,g3,g4,g5⟩:=jO0 rest (i+1) s1 fr1 (acc++[f]) k θ1 A hf1 hl
   refine⟨θ2,S2,fr2,f::fs,Nat.le_trans hfr g1,g2,fun j hj=>(g3 j (by omega)).trans (ha1 j hj),?_,by simpa using g5⟩
   simp only[tZ0,hst,g4]
  have skip:∀ s0:AS,s0.sub θ=s.sub θ->s0.n=s.n->E3 ops (s.sub θ) o=some false->S8 s.n o.dst=true->fO0 T (bJ0 Φ) ops n0 N (masks.getD i 0) i (fh0 o.op&&oA0 ops masks i) (s.sub θ) o=some (AS.sub θ (s0.put o.dst (.sc undef)),⟨[],[],false,0,false⟩):=fun s0 h0 _ hw hd=>by
   have hd':S8 (s.sub θ).n o.dst=true:=hd
   unfold fO0
   rw[hw,hd']
   have e3:=AS.sub_put θ s0 s0.st o.dst (.sc undef)
   have e4:({ s0 with st:=s0.st }:AS)=s0:=rfl
   have e5:({ s0.sub θ with st:=s0.st.sub θ }:AS)=s0.sub θ:=rfl
   rw[e4,e5,J0,h0]at e3
   rw[e3]
  unfold gN0 at h
  split at h
  ·exact h.elim
  ·rename_i hd
   split at h
   ·rename_i hw
    obtain⟨θ1,S1,fr1,f,g1,g2,g3,g4,g5⟩:=oe0 (T:=T) (Φ:=Φ) (F:=F) (ops:=ops) (fun hb=>by rw[Bool.and_eq_true]at hb;exact hb.1) hθ (aF0 θ hw) hd h
    exact fin S1 θ1 fr1 f g1 g2 g3 g4 g5
   ·rename_i hw
    exact fin _ θ fr _ (Nat.le_refl _) hθ (fun _ _=>rfl) (skip s rfl rfl (aF0 θ hw) hd) h
   ·rename_i hw
    split at h
    ·rename_i j want hg
     have hwant:∀ b,θ j=.sc (.bool b)->E3 ops (s.sub θ) o=some (b==want):=fun b hb=>by
      unfold ge0 at hg
      unfold E3
      split at hg
      ·cases hg
      ·rename_i j' w' hgu
       rw[hgu]
       simp only
       split at hg
       ·rename_i d hdd
        rw[hdd]
        simp only
        split at hg
        ·rename_i hlt
         rw[Nat.blt_eq]at hlt
         rw[AS.sub_n,if_pos hlt,AS.sub_get]
         split at hg
         ·rename_i i' hi'
          cases hg
          rw[hi',u5,hb]
         ·cases hg
        ·cases hg
       ·cases hg
     have both:∀ b:Bool,θ j=.sc (.bool b)->E7 T Φ Q (match b==want with
       | true=>si0 T Φ F n0 N (masks.getD i 0) i (fh0 o.op&&oA0 ops masks i) o (s.ssub (ap0 j b)) fr fun s' fr' f=>gN0 T Φ F ops n0 N masks rest (i+1) s' fr' (acc++[f]) k
       | false=>gN0 T Φ F ops n0 N masks rest (i+1) ((s.ssub (ap0 j b)).put o.dst (.sc undef)) fr (acc++[⟨[],[],false,0,false⟩]) k) θ A->∃ θ' S' fr' fs,fr<=fr'/\Fit θ'/\(∀ j,j<fr->θ' j=θ j)/\tZ0 T (bJ0 Φ) ops n0 N masks (o::rest) i (s.sub θ)=some (AS.sub θ' S',fs)/\E7 T Φ Q (k S' fr' (acc++fs)) θ' A:=fun b hb hh=>by
      have hin:=ez0 (θ:=θ) (j:=j) (b:=b) hb s
      have hwb:=hwant b hb
      split at hh
      ·rename_i hbw
       rw[hbw]at hwb
       rw[<- hin]at hwb
       obtain⟨θ1,S1,fr1,f,g1,g2,g3,g4,g5⟩:=oe0 (T:=T) (Φ:=Φ) (F:=F) (ops:=ops) (fun hb=>by rw[Bool.and_eq_true]at hb;exact hb.1) hθ hwb hd hh
       rw[hin]at g4
       exact fin S1 θ1 fr1 f g1 g2 g3 g4 g5
      ·rename_i hbw
       rw[hbw]at hwb
       exact fin _ θ fr _ (Nat.le_refl _) hθ (fun _ _=>rfl) (skip _ hin rfl hwb hd) hh
     rcases h with ⟨hb,hh⟩ | ⟨hb,hh⟩
     ·exact both true hb hh
     ·exact both false hb hh
    ·exact h.elim
include hΦ in
theorem kx0:∀ f args σ v σ',bJ0 Φ f args σ=some (v,σ')->C1 P f args σ (fun v' σ''=>v'=v/\σ''=σ')/\Z2 σ σ':=by
 intro f args σ v σ' h
 unfold bJ0 at h
 split at h
 ·rename_i φ hφ
  split at h
  ·rename_i c hc
   cases h
   exact⟨hΦ.memo f φ (H8.fn_eq hφ).1 (H8.fn_eq hφ).2 args v hc σ,.refl _⟩
  ·cases h
 ·cases h
variable (hm:P.follows .mixedOrders=true)
def gr0(P:Program)(n:Nat)(c:Code)(Q:Exit->AS->Prop):Nat->AS->Prop
 | 0,_=>False
 | j+1,s=>BWp P n c (mL0 (gr0 P n c Q j) Q) s
theorem gr0.wp{n:Nat}{c:Code}{Q':Exit->AS->Prop}{j:Nat}{s:AS}(h:gr0 P n c Q' j s):BWp P n (.loop c) Q' s:=by
 refine BWp.loop (gr0 P n c Q') ?_ h
 intro k s1 hk
 cases k with
 | zero=>exact hk.elim
 | succ k =>
  refine BWp.mono hk ?_
  intro e s2 h2
  cases e with
  | normal=>exact⟨k,Nat.lt_succ_self _,h2⟩
  | _=>exact h2
theorem iX0{ex:Exe}(hex:ExOk P T Φ Q ex){n:Nat}{b:Code}{k:KE}{fr0:Nat}{θ0:Nat->AV}{A0:Nat->List AV->Prop}:∀ (j:Nat) (s:AS) (fr:Nat) (θ:Nat->AV) (A:Nat->List AV->Prop),fr0<=fr->Fit θ->(∀ i,i<fr0->θ i=θ0 i)->(∀ l,l<fr0->A l=A0 l) ->
  E7 T Φ Q (mA0 ex n b k j s fr) θ A->gr0 P n b (rO0 T Φ Q fr0 θ0 A0 k) j (s.sub θ)
 | 0,s,fr,θ,A,_,_,_,_,h=>h.elim
 | j+1,s,fr,θ,A,h0,hθ,h1,h2,h=>by
  refine BWp.mono (hex n b s fr _ θ A hθ h) ?_
  rintro e s' ⟨e',θ1,S1,fr1,A1,rfl,q1,q2,q3,q4,rfl,q6⟩
  have g1:∀ i,i<fr0->θ1 i=θ0 i:=fun i hi=>(q3 i (by omega)).trans (h1 i hi)
  have g2:∀ l,l<fr0->A1 l=A0 l:=fun l hl=>(q4 l (by omega)).trans (h2 l hl)
  cases e' with
  | nor=>exact iX0 hex j S1 fr1 θ1 A1 (by omega) q2 g1 g2 q6
  | exi i=>exact⟨.exi i,θ1,S1,fr1,A1,rfl,by omega,q2,g1,g2,rfl,q6⟩
  | ret=>exact⟨.ret,θ1,S1,fr1,A1,rfl,by omega,q2,g1,g2,rfl,q6⟩
theorem sk0{n:Nat}{c:Code}{h:Hint}{fr:Nat}{k:AS->RT}{kk:KE}{A:Nat->List AV->Prop}(hk:∀ s θ,Fit θ->E7 T Φ Q (k s) θ A->BWp P n c (rO0 T Φ Q fr θ A kk) (AS.sub θ s)):∀ (m:Nat) (s:AS) (θ:Nat->AV),Fit θ ->
  E7 T Φ Q (sPre h fr k m s) θ A->BWp P n c (rO0 T Φ Q fr θ A kk) (AS.sub θ s)
 | 0,s,θ,hθ,hl=>hk s θ hθ hl
 | m+1,s,θ,hθ,hl=>by
  unfold sPre at hl
  split at hl
  ·rename_i a x hfz
   have hobj:s.st.objs a=some x:=by
    have:∀ (l:List AV) (t:Nat),fzAt s l t=some (a,x)->s.st.objs a=some x:=by
     intro l
     induction l with
     | nil=>intro t h;simp[fzAt]at h
     | cons v l ih =>
      intro t h
      unfold fzAt at h
      split at h
      ·split at h
       ·rename_i hx;cases h;exact hx
       ·exact ih _ h
      ·exact ih _ h
    exact this _ _ hfz
   split at hl
   ·rename_i hbb
    obtain⟨θ1,a1,f1,e1,hl⟩:=hl
    simp only[j5]at e1
    split at e1
    ·rename_i hrows
     have hs1:s.sub θ1=s.sub θ:=AS.sub_agree a1 hbb
     rw[<- hs1]
     refine BWp.freeze f1 hobj (iy0 hbb hobj a1 hrows) (BWp.mono (sk0 hk m _ θ1 f1 hl) fun e s' hp=>?_)
     obtain⟨e',θ2,S2,fr2,A2,q1,q2,q3,q4,q5,q6,q7⟩:=hp
     exact⟨e',θ2,S2,fr2,A2,q1,q2,q3,fun i hi=>(q4 i hi).trans (a1 i hi),q5,q6,q7⟩
    ·cases e1
   ·exact hl.elim
  ·exact hk s θ hθ hl
include hT hΦ hF hm in
theorem mC0{H:Nat->Option Hint}:∀ m,ExOk P T Φ Q (exec T Φ F H m)
 | 0=>fun n c s fr k θ A _ h=>by simp[exec,E7]at h
 | m+1=>by
  intro n c s fr k θ A hθ h
  have ih:=mC0 (H:=H) m
  have self:∀ e,E7 T Φ Q (k e s fr) θ A->rO0 T Φ Q fr θ A k (EX.toExit e) (s.sub θ):=fun e hh=>⟨e,θ,s,fr,A,rfl,Nat.le_refl _,hθ,fun _ _=>rfl,fun _ _=>rfl,rfl,hh⟩
  unfold exec at h
  split at h
  ·exact BWp.of_awp (AWp.skip (self .nor h))
  ·exact BWp.of_awp (AWp.label (self .nor h))
  ·rename_i id ops
   refine BWp.region ?_
   have:=lS0 hT hΦ hF ih (n0:=s.st.next) (n:=n) ops.toList 0 _ fr _ θ A (fun j=>by simp) (by simp) hθ h
   simp only[Array.length_toList]at this
   rw[List.range_eq_range']
   intro G a w g1 g2 g3 g4
   refine C9 ?_ _ _ _ (this G a w g1 g2 g3 g4)
   rintro e a' w' ⟨e1,s2,G2,b1,b2,θ2,S2,fr2,A2,q⟩
   exact⟨e1,s2,G2,b1,b2,.nor,θ2,S2,fr2,A2,rfl,q⟩
  ·rename_i id ops
   split at h
   ·rename_i l0 t hbar
    obtain⟨hops0,hlw⟩:=iw0 hbar
    have hops:ops=⟨l0++t⟩:=by apply Array.ext';rw[<- hops0];simp
    split at h
    ·rename_i hst
     obtain⟨θ',S',fr',fs,g1,g2,g3,g4,g5⟩:=jO0 (T:=T) (Φ:=Φ) (F:=F) (ops:=(⟨l0⟩:Array Oper)) l0 0 _ fr [] _ θ A hθ h
     simp only[List.nil_append]at g5
     split at g5
     ·rename_i hdyn
      subst hops
      refine BWp.drawnTail hT hm (cl:=bJ0 Φ) (kx0 hΦ) hlw (s':=AS.sub θ' S') ?_ ?_
      ·unfold aW0
       rw[if_pos hst]
       have e:({ s.sub θ with st:={ (s.sub θ).st with next:=(s.sub θ).st.next+(⟨l0⟩:Array Oper).size } }:AS)=AS.sub θ { s with st:={ s.st with next:=s.st.next+l0.length } }:=rfl
       rw[e]
       have e2:(s.sub θ).st.next=s.st.next:=rfl
       rw[e2]
       have e3:(⟨l0⟩:Array Oper).size=l0.length:=rfl
       rw[e3,g4]
       simp only
       rw[if_pos hdyn]
      ·have e4:({ AS.sub θ' S' with st:={ (AS.sub θ' S').st with next:=(AS.sub θ' S').st.next+(l0++t).length } }:AS)=AS.sub θ' { S' with st:={ S'.st with next:=S'.st.next+(l0++t).length } }:=rfl
       rw[e4]
       have:=lS0 hT hΦ hF ih (ops:=(⟨l0++t⟩:Array Oper)) (n0:=S'.st.next) (n:=n) t l0.length { S' with st:={ S'.st with next:=S'.st.next+(l0++t).length } } fr' (fun s2 fr2=>k .nor s2 fr2) θ' A (fun j=>by rw[List.getElem?_toArray,List.getElem?_append_right (by omega),Nat.add_sub_cancel_left]) (by simp) g2 g5
       intro G a w q1 q2 q3 q4
       refine C9 ?_ _ _ _ (this G a w q1 q2 q3 q4)
       rintro e a' w' ⟨e1,s2,G2,b1,b2,θ2,S2,fr2,A2,r1,r2,r3,r4,r5,r6⟩
       exact⟨e1,s2,G2,b1,b2,.nor,θ2,S2,fr2,A2,rfl,Nat.le_trans g1 r1,r2,fun i hi=>(r3 i (by omega)).trans (g3 i hi),fun l hl=>r4 l (by omega),r5,r6⟩
     ·exact g5.elim
    ·exact h.elim
   split at h
   ·rename_i hst
    obtain⟨θ',S',fr',fs,g1,g2,g3,g4,g5⟩:=jO0 (T:=T) (Φ:=Φ) (F:=F) ops.toList 0 _ fr [] _ θ A hθ h
    simp only[List.nil_append]at g5
    split at g5
    ·rename_i hdyn
     refine BWp.of_awp (AWp.drawn hT hm (cl:=bJ0 Φ) (kx0 hΦ) (s':=AS.sub θ' S') ?_ ⟨.nor,θ',S',fr',A,rfl,g1,g2,g3,fun _ _=>rfl,rfl,g5⟩)
     unfold aW0
     rw[if_pos hst]
     have e:({ s.sub θ with st:={ (s.sub θ).st with next:=(s.sub θ).st.next+ops.size } }:AS)=AS.sub θ { s with st:={ s.st with next:=s.st.next+ops.size } }:=rfl
     rw[e]
     have e2:(s.sub θ).st.next=s.st.next:=rfl
     rw[e2,g4]
     simp only
     rw[if_pos hdyn]
    ·exact g5.elim
   ·exact h.elim
  ·rename_i a b
   refine BWp.seq (BWp.mono (ih n a s fr _ θ A hθ h) ?_)
   rintro e s' ⟨e',θ1,S1,fr1,A1,rfl,q1,q2,q3,q4,rfl,q6⟩
   cases e' with
   | nor =>
    refine BWp.mono (ih n b S1 fr1 k θ1 A1 q2 q6) ?_
    rintro e2 s2 ⟨e2',θ2,S2,fr2,A2,rfl,r1,r2,r3,r4,r5,r6⟩
    exact⟨e2',θ2,S2,fr2,A2,rfl,Nat.le_trans q1 r1,r2,fun i hi=>(r3 i (by omega)).trans (q3 i hi),fun l hl=>(r4 l (by omega)).trans (q4 l hl),r5,r6⟩
   | exi j=>exact⟨.exi j,θ1,S1,fr1,A1,rfl,q1,q2,q3,q4,rfl,q6⟩
   | ret=>exact⟨.ret,θ1,S1,fr1,A1,rfl,q1,q2,q3,q4,rfl,q6⟩
  ·rename_i x a b
   split at h
   ·rename_i t hx
    refine BWp.cond (t:=t) (by rw[AS.sub_eval,hx,J0]) ?_
    exact ih n _ s fr k θ A hθ h
   ·rename_i i hx
    have hev:∀ t,θ i=.sc (.bool t)->(s.sub θ).eval x=.sc (.bool t):=fun t ht=>by rw[AS.sub_eval,hx,u5,ht]
    rcases h with ⟨hb,hh⟩ | ⟨hb,hh⟩
    ·refine BWp.cond (t:=true) (hev true hb) ?_
     have:=ih n a _ fr k θ A hθ hh
     rw[ez0 hb]at this
     exact this
    ·refine BWp.cond (t:=false) (hev false hb) ?_
     have:=ih n b _ fr k θ A hθ hh
     rw[ez0 hb]at this
     exact this
   ·exact h.elim
  ·rename_i id b
   refine BWp.block (BWp.mono (ih n b s fr _ θ A hθ h) ?_)
   rintro e s' ⟨e',θ1,S1,fr1,A1,rfl,q1,q2,q3,q4,rfl,q6⟩
   cases e' with
   | nor=>exact⟨.nor,θ1,S1,fr1,A1,rfl,q1,q2,q3,q4,rfl,q6⟩
   | ret=>exact⟨.ret,θ1,S1,fr1,A1,rfl,q1,q2,q3,q4,rfl,q6⟩
   | exi j =>
    simp only[EX.toExit,fW0]
    simp only at q6
    split
    ·rename_i e;rw[if_pos e]at q6;exact⟨.nor,θ1,S1,fr1,A1,rfl,q1,q2,q3,q4,rfl,q6⟩
    ·rename_i e;rw[if_neg e]at q6;exact⟨.exi j,θ1,S1,fr1,A1,rfl,q1,q2,q3,q4,rfl,q6⟩
  ·rename_i b
   split at h
   ·rename_i hint hH
    refine sk0 (fun s θ hθ h=>?_) 4 s θ hθ h
    split at h
    ·rename_i inits hm hbd
     obtain⟨I,⟨n1,hI0⟩,hround⟩:=h
     obtain⟨v1,v2,v3,ι,hren⟩:=bR0 hθ hm
     refine BWp.conv hren ?_
     have eta_lo:∀ (vals:List AV) (θ1:Nat->AV) i,i<fr->(ag0 fr vals i).sub θ1=θ1 i:=fun vals θ1 i hi=>by
      unfold ag0
      have:Nat.ble fr i=false:=by
       cases hb:Nat.ble fr i with
       | false=>rfl
       | true=>have:=Nat.le_of_ble_eq_true hb;omega
      rw[this];simp
     have eta_hi:∀ (vals:List AV) (θ1:Nat->AV) j (hj:j<vals.length),(ag0 fr vals (fr+j)).sub θ1=(vals[j]).sub θ1:=fun vals θ1 j hj=>by
      unfold ag0
      rw[Nat.ble_eq_true_of_le (Nat.le_add_right fr j)]
      simp[hj]
     have pad:∀ (vals:List AV) (θ1:Nat->AV),vals.length=hint.k->(∀ i,i<fr->θ1 i=θ i)->(∀ j (hj:j<vals.length),θ1 (fr+j)=vals[j])->Fit θ1->∃ θ2,(∀ i,i<fr->θ2 i=θ i)/\(∀ j (hj:j<vals.length),θ2 (fr+j)=vals[j])/\θ2 (fr+hint.k)=.sc (.bool false)/\Fit θ2/\hint.state.sub θ1=hint.state.sub θ2:=fun vals θ1 p1 p2 p3 p4=>by
      refine⟨fun i=>if i=fr+hint.k then .sc (.bool false)else θ1 i,fun i hi=>?_,fun j hj=>?_,by simp,fun i=>?_,?_⟩
      ·simp only[show ¬ i=fr+hint.k by omega,if_false];exact p2 i hi
      ·simp only[show ¬ fr+j=fr+hint.k by omega,if_false];exact p3 j hj
      ·show aH0 (if i=fr+hint.k then .sc (.bool false)else θ1 i)
       split
       ·trivial
       ·exact p4 i
      ·refine(AS.sub_agree (fun i hi=>?_) hbd).symm
       simp only[show ¬ i=fr+hint.k by omega,if_false]
     refine BWp.loop (fun k1 s1=>∃ vals θ1,I k1 vals/\vals.length=hint.k/\(∀ v∈vals,aH0 v)/\(∀ i,i<fr->θ1 i=θ i)/\(∀ j (hj:j<vals.length),θ1 (fr+j)=vals[j])/\Fit θ1/\s1=hint.state.sub θ1) ?_ (k:=n1) ?_
     ·rintro k1 s1 ⟨vals,θ0,g1,g2,g3,g40,g50,g60,rfl⟩
      obtain⟨θ1,g4,g5,g5',g6,g7⟩:=pad vals θ0 g2 g40 g50 g60
      rw[g7]
      have hb:=ih n b hint.state (fr+hint.k+1) _ θ1 _ g6 (hround k1 vals g1 g2 g3 θ1 g4 g5 g5' g6)
      refine BWp.convEnd' (BWp.mono hb ?_)
      rintro e s' ⟨e',θ2,S2,fr2,A2,rfl,q1,q2,q3,q4,rfl,q6⟩
      have hA2:A2 fr=fun vals'=>∃ m,m<k1/\I m vals':=by
       rw[q4 fr (by omega)];simp
      have hlo:∀ i,i<fr->θ2 i=θ i:=fun i hi=>(q3 i (by omega)).trans (g4 i hi)
      have hAlo:∀ l,l<fr->A2 l=A l:=fun l hl=>by rw[q4 l (by omega)];simp[Nat.ne_of_lt hl]
      cases e' with
      | nor =>
       left
       simp only at q6
       split at q6
       ·rename_i vals' hm'
        obtain⟨w1,w2,w3,ι',hren'⟩:=bR0 q2 hm'
        refine⟨ι',_,hren',?_⟩
        simp only[EX.toExit,mL0]
        have q7:A2 fr (vals'.map (AV.sub θ2)):=q6
        rw[hA2]at q7
        obtain⟨m1,hm1,hI1⟩:=q7
        refine⟨m1,hm1,vals'.map (AV.sub θ2),_,hI1,by simpa using w1,fun v hv=>?_,fun i hi=>by rw[eta_lo];exact hlo i hi;exact hi,fun j hj=>?_,w3,rfl⟩
        ·obtain⟨v0,hv0,rfl⟩:=List.mem_map.1 hv;exact w2 v0 hv0
        ·simp only[List.length_map]at hj
         rw[eta_hi vals' θ2 j hj];simp
       ·exact q6.elim
      | exi j=>right;exact⟨.exi j,θ2,S2,fr2,A2,rfl,by omega,q2,hlo,hAlo,rfl,q6⟩
      | ret=>right;exact⟨.ret,θ2,S2,fr2,A2,rfl,by omega,q2,hlo,hAlo,rfl,q6⟩
     ·refine⟨inits.map (AV.sub θ),_,hI0,by simpa using v1,fun v hv=>?_,fun i hi=>eta_lo _ _ i hi,fun j hj=>?_,v3,rfl⟩
      ·obtain⟨v0,hv0,rfl⟩:=List.mem_map.1 hv;exact v2 v0 hv0
      ·simp only[List.length_map]at hj
       rw[eta_hi inits θ j hj];simp
    ·exact h.elim
   ·exact(iX0 ih 1000 s fr θ A (Nat.le_refl _) hθ (fun _ _=>rfl) (fun _ _=>rfl) h).wp
  ·exact BWp.of_awp (AWp.exit (self (.exi _) h))
  ·exact BWp.of_awp (AWp.ret (self .ret h))
  ·rename_i b
   refine BWp.scope (BWp.mono (ih n b s fr _ θ A hθ h) ?_)
   rintro e s' ⟨e',θ1,S1,fr1,A1,rfl,q⟩
   exact⟨by cases e'<;>trivial,e',θ1,S1,fr1,A1,rfl,q⟩
  ·exact h.elim
include hT hΦ hF hm in
theorem fn_ok {H:Nat->Option Hint} {m fr:Nat} {f:FuncId} {fn:Func} {c:Code} (hfn:F f=some fn) (hname:(fn.name== "runtime.NumGoroutine")=false) (hb:fn.body=some c) {pargs:List AV} (hn:pargs.length<=fn.ntmps) (hp:dd0 pargs=true)
  {θ:Nat->AV} (hθ:Fit θ) {r:AV} (h:E7 T Φ (fun c=>c=r) (exec T Φ F H m 0 c (AS.enter fn.ntmps pargs c9.none) fr (kTop T fn)) θ (fun _ _=>False)):F3 P ⟨f,pargs.map (AV.sub θ),r⟩:=by
 refine F3.of_body hT (hF f fn hfn) hname hb (by simpa using hn) (by rw[<- Z0,<-H6];exact Q5 hθ pargs hp) ?_
 have:=mC0 hT hΦ hF hm (H:=H) m 0 c _ fr _ θ _ hθ h
 rw[gR0]at this
 refine BWp.mono this ?_
 rintro e s' ⟨e',θ1,S1,fr1,A1,rfl,_,f1,_,_,rfl,hl⟩
 have fin:∀ e'',e'=e''->(e''=.nor\/e''=.ret)->(e''.toExit=.normal\/e''.toExit=.ret)/\∃ v,D0 T fn (S1.sub θ1)=some v/\∀ G w u pl,Rel G (S1.sub θ1).st w->Rep G v u->Rep (G.frozen (S1.sub θ1).st w pl) r u:=by
  intro e'' he hor
  subst he
  refine⟨by rcases hor with rfl | rfl<;>simp[EX.toExit],?_⟩
  have hl':E7 T Φ (fun c=>c=r) (match D0 T fn S1 with
   | some v=>match v.contP with
    | true=>.ret v.nilz []
    | false=>match aI0 S1.st 50 v with
     | some c=>.ret c.nilz (Z3 S1.st.tr)
     | none=>.stuck
   | none=>.stuck) θ1 A1:=by rcases hor with rfl | rfl<;>exact hl
  split at hl'
  ·rename_i v hv
   refine⟨v.sub θ1,cx0 hv,?_⟩
   intro G w u pl hrel hrep
   split at hl'
   ·rename_i hcp
    obtain⟨_,hq⟩:=hl'
    rw[<- hq]
    exact ef0 v u (O5 (fun b o hb=>F7 hrel hb) hrep (bm0 f1 v hcp))
   ·split at hl'
    ·rename_i c hc
     obtain⟨hrows,hq⟩:=hl'
     rw[<- hq]
     exact ef0 c u (cT0 f1 hrel pl (fun id e z j ho=>hrows j (at0 ho)) (fun id j ho=>hrows j (V8 ho)) 50 v c u hc hrep)
    ·exact hl'.elim
  ·exact hl'.elim
 cases e' with
 | exi j=>exact hl.elim
 | nor=>exact fin .nor rfl (.inl rfl)
 | ret=>exact fin .ret rfl (.inr rfl)
end
end Go.Ab
namespace Go.Ab
open Go
variable [B0]
section
variable {T:Tab} {Φ:H8} {Q:AV->Prop} {θ:Nat->AV} {A:Nat->List AV->Prop}
end
@[simp] theorem fit_int (k:IntKind) (n:Int):aH0 (.sc (.int k n)):=trivial
@[simp] theorem fit_bool (b:Bool):aH0 (.sc (.bool b)):=trivial
@[simp] theorem fit_str (b:ByteArray):aH0 (.sc (.string b)):=trivial
def tellL:List (Nat×(List AV->Option AV))->H8
 | [],_=>none
 | (g,φ)::l,f=>match Nat.beq g f with
  | true=>some φ
  | false=>tellL l f
def xG0:List (Nat×Hint)->Nat->Option Hint
 | [],_=>none
 | (g,h)::l,f=>match Nat.beq g f with
  | true=>some h
  | false=>xG0 l f
def gX0(T:Tab)(Φ:H8)(F:FuncId->Option Func)(H:List (Nat×Hint))(m:Nat)(f:FuncId)(pargs:List AV)(fr:Nat):RT :=
 match F f with
 | some fn=>match fn.body with
  | some c=>match !(fn.name== "runtime.NumGoroutine")&&Nat.ble pargs.length fn.ntmps&&dd0 pargs with
   | true=>exec T Φ F (xG0 H) m 0 c (AS.enter fn.ntmps pargs c9.none) fr (kTop T fn)
   | false=>.stuck
  | none=>.stuck
 | none=>.stuck
theorem oQ0{P:Program}{T:Tab}(hT:C2 P T){Φ:H8}(hΦ:ha0 P Φ){F:FuncId->Option Func}(hF:∀ f fn,F f=some fn->P.funcs[f]?=some fn)(hm:P.follows .mixedOrders=true){H:List (Nat×Hint)}{m:Nat}{f:FuncId}{pargs:List AV}{fr:Nat}
  {θ:Nat->AV} (hθ:Fit θ) {r:AV} (h:E7 T Φ (fun c=>c=r) (gX0 T Φ F H m f pargs fr) θ (fun _ _=>False)):F3 P ⟨f,pargs.map (AV.sub θ),r⟩:=by
 unfold gX0 at h
 split at h
 ·rename_i fn hfn
  split at h
  ·rename_i c hb
   split at h
   ·rename_i hc
    simp only[Bool.and_eq_true,Bool.not_eq_true']at hc
    exact fn_ok hT hΦ hF hm hfn hc.1.1 hb (Nat.le_of_ble_eq_true hc.1.2) hc.2 hθ h
   ·exact h.elim
  ·exact h.elim
 ·exact h.elim
def env(l:List AV)(i:Nat):AV:=(l[i]?).getD (.sc (.bool false))
theorem Fit.env{l:List AV}(h:∀ v∈l,aH0 v):Fit (env l):=fun i=>by
 unfold Go.Ab.env
 cases hi:l[i]? with
 | none=>trivial
 | some v=>exact h v (List.mem_of_getElem? hi)
end Go.Ab
namespace Go.Ab
variable [B0]
open Go Go.RowKit Go.WideShapes Go.ChangeShapes
section
variable {H:Type} {enc:TypeId×Value->H} {P:Program} {N:Nat}
theorem ee0(hl:laidOutB P=true){W W':World}(hb:Below W.heap.size W W'){sp:Nat->Bool}:∀ {ts:List TypeId} {vs:List Value} {ds:List (DataW H)} {ps:List MemPlace},(∀ t∈ts,P.readableRec t=true/\t<P.types.size) ->
  DataW.TrodAll enc P W 0 (fun _=>true) true ts vs ds ps->(∀ p∈ps,p.block<W.heap.size)->(∀ p∈ps,sp p.block=true)->DataW.TrodAll enc P W' 0 sp true ts vs ds ps
 | [],[],[],_,_,h,_,_=>h
 | t::ts,_::_,_::_,_,ht,⟨p,q,h1,h2,e⟩,hlt,hs=>by
  refine⟨p,q,?_,?_,e⟩
  ·exact WideElems.Trod_stays hl (ht t (by simp)).1 (ht t (by simp)).2 h1 (fun x hx=>hb.same (hlt x (by rw[e];simp[hx]))) (fun x hx=>hs x (by rw[e];simp[hx]))
  ·exact ee0 hl hb (fun u hu=>ht u (by simp[hu])) h2 (fun x hx=>hlt x (by rw[e];simp[hx])) (fun x hx=>hs x (by rw[e];simp[hx]))
theorem tF0(hl:laidOutB P=true){f:Func}{s:ChangeSpec}{apart fresh handsOn again:Bool}{W W':World}{args:Array Value}{ds gs:List (DataW H)}{before:List MemPlace}{tb:TypeId}
  (hv:s.vars=[]) (hread:∀ t∈f.params.toList,P.readableRec t=true/\t<P.types.size) (hrt:f.resultTypes=#[tb]) (htb:P.underlying tb=some .bool)
  (hfn:(s.fn H (ds++gs)).results=[.lit (.bool true)]/\(s.fn H (ds++gs)).args=ds/\(s.fn H (ds++gs)).vars=[])
  (hW:DataW.Whole enc P f.params.toList s.vars apart W args.toList ds gs before) (hb:Below W.heap.size W W'):s.post enc P f apart fresh handsOn again W args (.bool true) W':=by
 have hW':=hW
 obtain⟨p,q,hA,hV,rfl,hz,hn⟩:=hW
 rw[hv]at hV
 obtain⟨rfl,rfl⟩:=trodVars_none hV
 have hlt:∀ x∈p++[],x.block<W.heap.size:=fun x hx=>hW'.lt x hx
 have hres:∀ (b:Nat) (sp:Nat->Bool) (hd:Bool),DataW.TrodAll enc P W' b sp hd f.resultTypes.toList ((Value.bool true).resultList f.resultTypes.size) (s.fn H (ds++[])).results []:=fun b sp hd=>by
  rw[hrt,hfn.1]
  exact trodAll_mk1 (shut_bool htb _)
 have hargs:∀ sp:Nat->Bool,(∀ x∈p++[],sp x.block=true)->DataW.TrodAll enc P W' 0 sp true f.params.toList args.toList (s.fn H (ds++[])).args p:=fun sp hsp=>by
  rw[hfn.2.1]
  exact ee0 hl hb hread hA (fun x hx=>hlt x (by simpa using hx)) (fun x hx=>hsp x (by simpa using hx))
 have hvars:∀ sp:Nat->Bool,(∀ x∈p++[],sp x.block=true)->DataW.TrodVars enc P W' sp s.vars (s.fn H (ds++[])).vars []:=fun sp _=>by
  rw[hv,hfn.2.2];rfl
 have hok:∀ (j:Nat) (t:TypeId) (r:Value),f.resultTypes[j]?=some t->((Value.bool true).resultList f.resultTypes.size)[j]?=some r->Value.okWide P W' .any 0 t r:=ok_one hrt rfl (okWide_bool_mk htb _)
 have hold:∀ x∈p++[],(fun b=>decide (b<W.heap.size)) x.block=true:=fun x hx=>by simpa using hlt x hx
 refine⟨ds,[],p++[],[],p,[],hW',hres _ _ _,hargs _ hold,hvars _ hold,World.keptBut_mono (fun x hx=>⟨hx,?_⟩) (hb.frame (·∈p++[])),fun _=>?_⟩
 ·exact Or.inr (by simpa using hx)
 ·refine⟨hok,_,_,([]++p)++[],⟨[]++p,[],trodAll_append (hargs _ (fun _ _=>rfl)) (hres _ _ _),hvars _ (fun _ _=>rfl),rfl,?_,?_⟩,?_⟩
  ·intro b off hp
   have hin:MemPlace.cell b off∈p++[]:=by simpa using hp
   rw[hb.frozen (hlt _ hin)]
   exact hz b off hin
  ·intro ha
   have:=hn ha
   simpa using this
  ·intro x hx _
   simpa using hx
theorem oJ0{W:World}{base:Nat}{t:TypeId}{fs:Array Field}{v:Value}{d:DataW H}{p:List MemPlace}{k:Nat}(ht:P.underlying t=some (.struct fs))(hp:dL0 P k t=true)(hv:Value.okWide P W .any base t v)
  (h:DataW.Trod enc P W 0 (fun _=>true) true t v d p) (hN:∀ n∈d.weights P t,n<=N):∃ cs,Rep (j4.ofWorld W) (.agg cs) v/\Sh P N t cs:=by
 obtain⟨fuel,hf⟩:=h
 obtain⟨avs,h1,h2⟩:=jn0 k t hp fuel _ _ hf hN
 unfold Value.okWide at hv
 rw[ht]at hv
 obtain⟨cs,rfl,_⟩:=hv
 refine⟨avs,?_,h2⟩
 have h3:B7 (j4.ofWorld W) avs cs.toList:=h1
 have:=Rep.agg (G:=j4.ofWorld W) avs cs.toList h3.1 h3.2
 simpa using this
theorem vY0{W:World}{t:TypeId}{kd:IntKind}{v:Value}{d:DataW H}{p:List MemPlace}(ht:P.underlying t=some (.int kd))
  (h:DataW.Trod enc P W 0 (fun _=>true) true t v d p) (hv:v.cells.toList=[v]):∃ n,v=.int kd n/\(Lit.int kd n).wf=true:=by
 obtain⟨fuel,hf⟩:=h
 rw[hv]at hf
 obtain⟨n,e,_,hw⟩:=DataW.trod_int ht hf
 exact⟨n,by simpa using e,hw⟩
theorem pY0 {f:FuncId} {fn:Func} {avs:List AV} (hfn:P.funcs[f]?=some fn) (hname:(fn.name== "runtime.NumGoroutine")=false) (hbody:fn.body.isNone=false) (hm:F3 P ⟨f,avs,.sc (.bool true)⟩)
  {W:World} {args:Array Value} (hargs:B7 (j4.ofWorld W) avs args.toList) (hg:mb0 W):Calls P f args W fun e W'=>e=.returned (.bool true)/\Below W.heap.size W W':=by
 have:=F3.calls hfn hname hbody hm hargs (Rel.ofWorld hg)
 simp only[Array.toArray_toList]at this
 refine this.mono ?_
 rintro e W' ⟨v,G',rfl,hr,_,_,hb⟩
 cases hr
 exact⟨rfl,hb⟩
end
end Go.Ab
namespace Go.Ab
open Go
variable [B0]
def bndO(k:Nat):Option AV->Bool
 | none=>true
 | some x=>x.bnd k
def RO.bnd(k:Nat):RO->Bool
 | .bin _ _ x y=>x.bnd k&&y.bnd k
 | .un _ x=>x.bnd k
 | .conv _ _ x=>x.bnd k
 | .pick c a b=>c.bnd k&&(a.bnd k&&b.bnd k)
 | .idx _ x i=>x.bnd k&&i.bnd k
 | .index _ x i=>x.bnd k&&i.bnd k
 | .slc _ x lo hi=>x.bnd k&&(bndO k lo&&bndO k hi)
 | .len _ x=>x.bnd k
 | .mx l=>iA0 k l
 | .mn l=>iA0 k l
 | .cat _ _ x y=>x.bnd k&&y.bnd k
 | .call _ args _=>iA0 k args
 | .rows l=>l.all fun j=>Nat.blt j k
 | .look _ c ix _=>c.bnd k&&ix.bnd k
 | .lookr _ c ix _=>c.bnd k&&ix.bnd k
 | .mput _ c ix v=>c.bnd k&&(ix.bnd k&&v.bnd k)
 | .mlen _ c=>c.bnd k
 | .nop=>true
 | .isp x=>x.bnd k
 | .opn _ x=>x.bnd k
 | .zer _ x=>x.bnd k
 | .gl _ _=>true
 | .iss x=>x.bnd k
 | .more s p=>s.bnd k&&p.bnd k
 | .sdec s p=>s.bnd k&&p.bnd k
 | .ownr _ x=>x.bnd k
 | .xin c i _=>c.bnd k&&i.bnd k
 | .inb _ c i=>c.bnd k&&i.bnd k
 | .xld _ _ _ c i _=>c.bnd k&&i.bnd k
 | .xst _ _ _ c i _ v=>c.bnd k&&(i.bnd k&&v.bnd k)
theorem bv0{θ θ':Nat->AV}{k:Nat}(h:∀ i,i<k->θ' i=θ i):∀ l:List AV,iA0 k l=true->l.map (AV.sub θ')=l.map (AV.sub θ)
 | [],_=>rfl
 | a::l,hb=>by
  simp only[iA0,Bool.and_eq_true]at hb
  simp only[List.map_cons,sub_agree h a hb.1,bv0 h l hb.2]
theorem iE0{θ θ':Nat->AV}{k:Nat}(h:∀ i,i<k->θ' i=θ i):∀ l:Option AV,bndO k l=true->l.map (AV.sub θ')=l.map (AV.sub θ)
 | none,_=>rfl
 | some a,hb=>by simp only[Option.map_some,sub_agree h a hb]
theorem kp0{T:Tab}{Φ:H8}{θ θ':Nat->AV}{k:Nat}(h:∀ i,i<k->θ' i=θ i)(o:RO)(hb:o.bnd k=true):j5 T Φ θ' o=j5 T Φ θ o:=by
 cases o with
 | bin o t x y=>simp only[RO.bnd,Bool.and_eq_true]at hb;simp only[j5,sub_agree h _ hb.1,sub_agree h _ hb.2]
 | un o x=>simp only[RO.bnd]at hb;simp only[j5,sub_agree h _ hb]
 | conv s d x=>simp only[RO.bnd]at hb;simp only[j5,sub_agree h _ hb]
 | pick c a b=>simp only[RO.bnd,Bool.and_eq_true]at hb;simp only[j5,sub_agree h _ hb.1,sub_agree h _ hb.2.1,sub_agree h _ hb.2.2]
 | idx t x i=>simp only[RO.bnd,Bool.and_eq_true]at hb;simp only[j5,sub_agree h _ hb.1,sub_agree h _ hb.2]
 | index t x i=>simp only[RO.bnd,Bool.and_eq_true]at hb;simp only[j5,sub_agree h _ hb.1,sub_agree h _ hb.2]
 | slc t x lo hi=>simp only[RO.bnd,Bool.and_eq_true]at hb;simp only[j5,sub_agree h _ hb.1,iE0 h _ hb.2.1,iE0 h _ hb.2.2]
 | len t x=>simp only[RO.bnd]at hb;simp only[j5,sub_agree h _ hb]
 | mx l=>simp only[RO.bnd]at hb;simp only[j5,bv0 h _ hb]
 | mn l=>simp only[RO.bnd]at hb;simp only[j5,bv0 h _ hb]
 | cat s x a b=>simp only[RO.bnd,Bool.and_eq_true]at hb;simp only[j5,sub_agree h _ hb.1,sub_agree h _ hb.2]
 | call f args flat=>simp only[RO.bnd]at hb;simp only[j5,bv0 h _ hb]
 | look t c ix ok=>simp only[RO.bnd,Bool.and_eq_true]at hb;simp only[j5,sub_agree h _ hb.1,sub_agree h _ hb.2]
 | lookr t c ix ok=>simp only[RO.bnd,Bool.and_eq_true]at hb;simp only[j5,sub_agree h _ hb.1,sub_agree h _ hb.2]
 | mput t c ix v=>simp only[RO.bnd,Bool.and_eq_true]at hb;simp only[j5,sub_agree h _ hb.1,sub_agree h _ hb.2.1,sub_agree h _ hb.2.2]
 | mlen t c=>simp only[RO.bnd]at hb;simp only[j5,sub_agree h _ hb]
 | nop=>rfl
 | gl t g=>rfl
 | iss x=>simp only[RO.bnd]at hb;simp only[j5,sub_agree h _ hb]
 | more s p=>simp only[RO.bnd,Bool.and_eq_true]at hb;simp only[j5,sub_agree h _ hb.1,sub_agree h _ hb.2]
 | ownr cols x=>simp only[RO.bnd]at hb;simp only[j5,sub_agree h _ hb]
 | sdec s p=>simp only[RO.bnd,Bool.and_eq_true]at hb;simp only[j5,sub_agree h _ hb.1,sub_agree h _ hb.2]
 | xin c i off=>simp only[RO.bnd,Bool.and_eq_true]at hb;simp only[j5,sub_agree h _ hb.1,sub_agree h _ hb.2]
 | isp x=>simp only[RO.bnd]at hb;simp only[j5,sub_agree h _ hb]
 | opn n x=>simp only[RO.bnd]at hb;simp only[j5,sub_agree h _ hb]
 | zer t x=>simp only[RO.bnd]at hb;simp only[j5,sub_agree h _ hb]
 | inb t c i=>simp only[RO.bnd,Bool.and_eq_true]at hb;simp only[j5,sub_agree h _ hb.1,sub_agree h _ hb.2]
 | xld t e z c i off=>simp only[RO.bnd,Bool.and_eq_true]at hb;simp only[j5,sub_agree h _ hb.1,sub_agree h _ hb.2]
 | xst t e z c i off v=>simp only[RO.bnd,Bool.and_eq_true]at hb;simp only[j5,sub_agree h _ hb.1,sub_agree h _ hb.2.1,sub_agree h _ hb.2.2]
 | rows l =>
  simp only[RO.bnd,List.all_eq_true,Nat.blt_eq]at hb
  have e:∀ g:AV->Bool,l.all (fun j=>g (θ' j))=l.all (fun j=>g (θ j)):=fun g=>by
   rw[Bool.eq_iff_iff,List.all_eq_true,List.all_eq_true]
   constructor
   ·intro H j hj;rw[<- h j (hb j hj)];exact H j hj
   ·intro H j hj;rw[h j (hb j hj)];exact H j hj
  exact congrArg (fun b=>match b with | true=>some (AV.sc (.bool true)) | false=>none) (e (fun v=>match v with | .rs _=>true | _=>false))
mutual
def AV.top:AV->Nat
 | .sy i=>i+1
 | .rp cs=>topL cs
 | .agg cs=>topL cs
 | .tup cs=>topL cs
 | _=>0
def topL:List AV->Nat
 | []=>0
 | c::cs=>max c.top (topL cs)
end
def RT.bnd:RT->Nat->Bool
 | .stuck,_=>true
 | .ret c l,m=>c.bnd m&&l.all fun j=>Nat.blt j m
 | .op o fr pat r,m=>Nat.beq fr m&&(o.bnd m&&(pat.bnd (max m pat.top)&&r.bnd (max m pat.top)))
 | .test i a b,m=>Nat.blt i m&&(a.bnd m&&b.bnd m)
 | .loop l _ inits _,m=>Nat.beq l m&&iA0 m inits
 | .again _ vals,m=>iA0 m vals
theorem E7.agree{T:Tab}{Φ:H8}{Q:AV->Prop}:∀ (r:RT) {m:Nat} {θ θ':Nat->AV} {A:Nat->List AV->Prop},r.bnd m=true->Fit θ'->(∀ i,i<m->θ' i=θ i)->E7 T Φ Q r θ A->E7 T Φ Q r θ' A
 | .stuck,_,_,_,_,_,_,_,h=>h.elim
 | .ret c l,m,θ,θ',A,hb,hf,ha,h=>by
  simp only[RT.bnd,Bool.and_eq_true,List.all_eq_true,Nat.blt_eq]at hb
  refine⟨fun j hj=>?_,?_⟩
  ·rw[ha j (hb.2 j hj)];exact h.1 j hj
  ·rw[sub_agree ha c hb.1];exact h.2
 | .op o fr pat r,m,θ,θ',A,hb,hf,ha,⟨θ1,h1,h2,h3,h4⟩=>by
  simp only[RT.bnd,Bool.and_eq_true,Nat.beq_eq]at hb
  obtain⟨rfl,hb1,hb2,hb3⟩:=hb
  have hag:∀ i,i<max fr pat.top->(fun i=>if i<fr then θ' i else θ1 i) i=θ1 i:=fun i _=>by
   by_cases hi:i<fr
   ·simp only[hi,if_true];rw[ha i hi,h1 i hi]
   ·simp only[hi,if_false]
  have hfit:Fit (fun i=>if i<fr then θ' i else θ1 i):=fun i=>by
   show aH0 (if i<fr then θ' i else θ1 i)
   split
   ·exact hf i
   ·exact h2 i
  refine⟨fun i=>if i<fr then θ' i else θ1 i,fun i hi=>by simp[hi],hfit,?_,?_⟩
  ·rw[kp0 ha o hb1,h3,sub_agree hag pat hb2]
  ·exact E7.agree r hb3 hfit hag h4
 | .test i a b,m,θ,θ',A,hb,hf,ha,h=>by
  simp only[RT.bnd,Bool.and_eq_true,Nat.blt_eq]at hb
  rcases h with ⟨h1,h2⟩ | ⟨h1,h2⟩
  ·exact .inl ⟨by rw[ha i hb.1];exact h1,E7.agree a hb.2.1 hf ha h2⟩
  ·exact .inr ⟨by rw[ha i hb.1];exact h1,E7.agree b hb.2.2 hf ha h2⟩
 | .loop l k inits body,m,θ,θ',A,hb,hf,ha,⟨I,h1,h2⟩=>by
  simp only[RT.bnd,Bool.and_eq_true,Nat.beq_eq]at hb
  obtain⟨rfl,hb⟩:=hb
  exact⟨I,by rw[bv0 ha inits hb];exact h1,fun n vals hi hl hv θ2 hθ2=>h2 n vals hi hl hv θ2 (fun i hi=>by rw[hθ2 i hi,ha i hi])⟩
 | .again l vals,m,θ,θ',A,hb,hf,ha,h=>by
  simp only[RT.bnd]at hb
  show A l _
  rw[bv0 ha vals hb];exact h
def X5(T:Tab)(Φ:H8)(Q:AV->Prop)(r:RT)(L:List AV)(A:Nat->List AV->Prop):Prop:=(∀ v∈L,aH0 v)->E7 T Φ Q r (env L) A
section
variable {T:Tab} {Φ:H8} {Q:AV->Prop} {L:List AV} {A:Nat->List AV->Prop}
theorem uR0{L vs:List AV}{i:Nat}(h:i<L.length):env (L++vs) i=env L i:=by
 unfold env;rw[List.getElem?_append_left h]
theorem X5.opL{o:RO}{fr:Nat}{pat:AV}{r:RT}(vs:List AV)(he:j5 T Φ (env L) o=some (pat.sub (env (L++vs))))(hn:L.length=fr)(hv:∀ v∈vs,aH0 v)(h:X5 T Φ Q r (L++vs) A):X5 T Φ Q (.op o fr pat r) L A:=fun hL=>by
 have hall:∀ v∈L++vs,aH0 v:=fun v hm=>by
  rcases List.mem_append.1 hm with hm | hm
  ·exact hL v hm
  ·exact hv v hm
 exact⟨env (L++vs),fun i hi=>uR0 (by omega),Fit.env hall,he,h hall⟩
theorem X5.test{i:Nat}{a b:RT}(t:Bool)(hi:env L i=.sc (.bool t))(h1:t=true->X5 T Φ Q a L A)(h2:t=false->X5 T Φ Q b L A):X5 T Φ Q (.test i a b) L A:=fun hL=>by
 cases t with
 | true=>exact .inl ⟨hi,h1 rfl hL⟩
 | false=>exact .inr ⟨hi,h2 rfl hL⟩
theorem X5.retL{c:AV}{l:List Nat}(hl:∀ j∈l,∃ es,env L j=.rs es)(h:Q (c.sub (env L))):X5 T Φ Q (.ret c l) L A:=fun _=>⟨hl,h⟩
theorem X5.loop{l k:Nat}{inits:List AV}{body:RT}(I:Nat->List AV->Prop)(hn:L.length=l)(hb:body.bnd (l+k+1)=true)(n0:Nat)(h0:I n0 (inits.map (AV.sub (env L))))
  (h:∀ n vals,I n vals->vals.length=k->X5 T Φ Q body (L++(vals++[.sc (.bool false)])) (fun l'=>if l'=l then (fun vals'=>∃ m,m<n/\I m vals')else A l')):X5 T Φ Q (.loop l k inits body) L A:=fun hL=>by
 refine⟨I,⟨n0,h0⟩,fun n vals hi hl hv θ' h1 h2 h3 hf=>?_⟩
 have hall:∀ v∈L++(vals++[.sc (.bool false)]),aH0 v:=fun v hm=>by
  rcases List.mem_append.1 hm with hm | hm
  ·exact hL v hm
  rcases List.mem_append.1 hm with hm | hm
  ·exact hv v hm
  ·simp only[List.mem_singleton]at hm;subst hm;trivial
 refine E7.agree body hb hf (fun i hi=>?_) (h n vals hi hl hall)
 subst hn
 by_cases c1:i<L.length
 ·rw[uR0 c1];exact h1 i c1
 ·obtain⟨j,rfl⟩:∃ j,i=L.length+j:=⟨i-L.length,by omega⟩
  by_cases c2:j<vals.length
  ·rw[h2 j c2]
   unfold env
   rw[List.getElem?_append_right (by omega),Nat.add_sub_cancel_left,List.getElem?_append_left c2]
   simp[c2]
  ·have:j=k:=by omega
   subst this
   unfold env
   rw[List.getElem?_append_right (by omega),Nat.add_sub_cancel_left,List.getElem?_append_right (by omega),hl,h3]
   simp
end
end Go.Ab
namespace Go.Ab
open Go
variable [B0]
def or0:Operand->Bool
 | .const (.slice none 0 0)=>true
 | _=>false
theorem lw0{x:Operand}(h:or0 x=true):x=wq0:=by
 unfold or0 at h
 split at h
 ·rfl
 ·cases h
def bh0(o:Oper)(d:Nat):Bool:=match o.guard,o.dst with
 | none,some e=>Nat.beq e d
 | _,_=>false
theorem S5{o:Oper}{d:Nat}{op:Op}(h:bh0 o d=true)(hop:o.op=op):nH0 o (some d) op:=by
 unfold bh0 at h
 split at h
 ·rename_i h1 h2
  rw[Nat.beq_eq]at h
  subst h
  exact⟨h2,hop,h1⟩
 ·cases h
def nv0(o:Oper):Bool:=match o.op with
 | .assign x=>or0 x
 | _=>false
theorem kw0{o:Oper}(h:nv0 o=true):o.op=.assign wq0:=by
 unfold nv0 at h
 split at h
 ·rename_i x hx;rw[hx,lw0 h]
 ·cases h
def ll0(n:Nat):Operand->Bool
 | .tmp m=>Nat.beq m n
 | _=>false
theorem cM0{n:Nat}{x:Operand}(h:ll0 n x=true):x=.tmp n:=by
 unfold ll0 at h
 split at h
 ·rw[Nat.beq_eq]at h;rw[h]
 ·cases h
def mov0(o:Oper):Bool:=match o.op with
 | .move x=>ll0 0 x
 | _=>false
theorem rk0{o:Oper}(h:mov0 o=true):o.op=.move (.tmp 0):=by
 unfold mov0 at h
 split at h
 ·rename_i x hx;rw[hx,cM0 h]
 ·cases h
def asg7(o:Oper):Bool:=match o.op with
 | .assign x=>ll0 7 x
 | _=>false
theorem wG0{o:Oper}(h:asg7 o=true):o.op=.assign (.tmp 7):=by
 unfold asg7 at h
 split at h
 ·rename_i x hx;rw[hx,cM0 h]
 ·cases h
def xn0(t:Nat)(o:Oper):Bool:=match o.op with
 | .binOp .eql t' x y _=>Nat.beq t' t&&ll0 3 x&&or0 y
 | _=>false
theorem sP0{t:Nat}{o:Oper}(h:xn0 t o=true):∃ yt,o.op=.binOp .eql t (.tmp 3) wq0 yt:=by
 unfold xn0 at h
 split at h
 ·rename_i t' x y yt hx
  simp only[Bool.and_eq_true,Nat.beq_eq]at h
  obtain⟨⟨rfl,h2⟩,h3⟩:=h
  exact⟨yt,by rw[hx,cM0 h2,lw0 h3]⟩
 ·cases h
def bs0(t:Nat)(o:Oper):Bool:=match o.op with
 | .buildSlice t' 0 ⟨[]⟩=>Nat.beq t' t
 | _=>false
theorem bs0_eq{t:Nat}{o:Oper}(h:bs0 t o=true):o.op=.buildSlice t 0 #[]:=by
 unfold bs0 at h
 split at h
 ·rename_i t' hx;rw[Nat.beq_eq]at h;rw[hx,h]
 ·cases h
def vV0(t:Nat)(o:Oper):Bool:=match o.op with
 | .call { callee:=.builtin .append,args:=⟨[x,y]⟩,argTypes:=⟨[a,b]⟩ }=>ll0 5 x&&ll0 6 y&&Nat.beq a t&&Nat.beq b t
 | _=>false
theorem tS0{t:Nat}{o:Oper}(h:vV0 t o=true):o.op=.call { callee:=.builtin .append,args:=#[.tmp 5,.tmp 6],argTypes:=#[t,t] }:=by
 unfold vV0 at h
 split at h
 ·rename_i x y a b hx
  simp only[Bool.and_eq_true,Nat.beq_eq]at h
  obtain⟨⟨⟨h1,h2⟩,rfl⟩,rfl⟩:=h
  rw[hx,cM0 h1,cM0 h2]
 ·cases h
def ft0(fn:Func)(t:Nat):Bool:=Nat.beq fn.ntmps 8&&(match fn.results with
  | ⟨[.tmp n]⟩=>Nat.beq n 2
  | _=>false)&&match fn.body with
 | some (.seq (.region _ ⟨[o0]⟩ false) (.seq (.seq (.region _ ⟨[o1,o2]⟩ false) (.cond x (.seq (.region _ ⟨[o3]⟩ false) .ret) .skip)) (.seq (.region _ ⟨[o4,o5,o6,o7]⟩ false) .ret))) =>
  ll0 4 x&&bh0 o0 2&&nv0 o0&&bh0 o1 3&&mov0 o1&&bh0 o2 4&&xn0 t o2&&bh0 o3 2&&nv0 o3&&bh0 o4 5&&bs0 t o4&&bh0 o5 6&&mov0 o5&&bh0 o6 7&&vV0 t o6&&bh0 o7 2&&asg7 o7
 | _=>false
theorem lv0{fn:Func}{t:Nat}(h:ft0 fn t=true):lZ0 fn t:=by
 unfold ft0 at h
 simp only[Bool.and_eq_true,Nat.beq_eq]at h
 obtain⟨⟨h1,h2⟩,h3⟩:=h
 split at h2
 ·rename_i x hx
  split at h3
  ·rename_i i0 o0 i1 o1 o2 y i2 o3 i3 o4 o5 o6 o7 hb
   simp only[Bool.and_eq_true]at h3
   obtain⟨⟨⟨⟨⟨⟨⟨⟨⟨⟨⟨⟨⟨⟨⟨⟨hy,a0⟩,b0⟩,a1⟩,b1⟩,a2⟩,b2⟩,a3⟩,b3⟩,a4⟩,b4⟩,a5⟩,b5⟩,a6⟩,b6⟩,a7⟩,b7⟩:=h3
   obtain⟨yt,e2⟩:=sP0 b2
   refine⟨h1,by rw[hx,Nat.eq_of_beq_eq_true h2],i0,i1,i2,i3,o0,o1,o2,o3,o4,o5,o6,o7,yt,?_,S5 a0 (kw0 b0),S5 a1 (rk0 b1),S5 a2 e2,S5 a3 (kw0 b3),S5 a4 (bs0_eq b4),S5 a5 (rk0 b5),S5 a6 (tS0 b6),S5 a7 (wG0 b7)⟩
   rw[hb,cM0 hy]
  ·cases h3
 ·cases h2
end Go.Ab
namespace Go.Ab
open Go
variable [B0]
end Go.Ab
namespace Go.Ab
open Go
variable [B0]
abbrev I64(n:Int):AV:=.sc (.int .i64 n)
abbrev BB(b:Bool):AV:=.sc (.bool b)
section
variable {T:Tab} {Φ:H8} {θ:Nat->AV} {x y:AV} {a b:Int} {t:TypeId}
theorem wI0{l:List Nat}(h:∀ j∈l,∃ es,θ j=.rs es):j5 T Φ θ (.rows l)=some (BB true):=by
 simp only[j5]
 split
 ·rfl
 ·rename_i hf
  exfalso
  rw[Bool.eq_false_iff]at hf
  apply hf
  refine List.all_eq_true.2 fun j hj=>?_
  obtain⟨es,e⟩:=h j hj
  rw[e]
end
end Go.Ab
namespace Go.Ab
open Go
variable [B0]
theorem dO0{f:AV->Option AV}:∀ {l:List AV},(∀ c∈l,f c=some c)->jY0 f l=some l
 | [],_=>rfl
 | c::l,h=>by
  simp only[jY0,h c (by simp),dO0 (l:=l) (fun d hd=>h d (by simp[hd]))]
theorem hR0{f:AV->Option AV}:∀ {l:List (List AV)},(∀ c∈l,∀ d∈c,f d=some d)->tc0 f l=some l
 | [],_=>rfl
 | c::l,h=>by
  simp only[tc0,dO0 (h c (by simp)),hR0 (l:=l) (fun d hd=>h d (by simp[hd]))]
theorem kD0{σ:c9}:∀ (k:Nat) (v:AV),AV.pure k v=true->deep σ k v=some v
 | 0,v,h=>by simp[AV.pure]at h
 | k+1,v,h=>by
  have ih:=kD0 (σ:=σ) k
  cases v with
  | sc x=>rfl
  | rs es =>
   simp only[AV.pure]at h
   simp only[deep]
   rw[hR0 (fun c hc d hd=>ih d (List.all_eq_true.1 (List.all_eq_true.1 h c hc) d hd))]
  | agg cs =>
   simp only[AV.pure]at h
   simp only[deep]
   rw[dO0 (fun c hc=>ih c (List.all_eq_true.1 h c hc))]
  | tup cs =>
   simp only[AV.pure]at h
   simp only[deep]
   rw[dO0 (fun c hc=>ih c (List.all_eq_true.1 h c hc))]
  | _=>simp[AV.pure]at h
theorem wv0{k:Nat}{es:List (List AV)}(h:∀ c∈es,∀ d∈c,AV.pure k d=true):AV.pure (k+1) (.rs es)=true:=by
 simp only[AV.pure]
 exact List.all_eq_true.2 fun c hc=>List.all_eq_true.2 fun d hd=>h c hc d hd
theorem vZ0{σ:c9}{k id z:Nat}{e:TypeId}{es:List (List AV)}(ho:σ.objs id=some (.row e z es))(h:∀ c∈es,∀ d∈c,AV.pure k d=true):deep σ (k+1) (.ms id z 0 es.length)=some (.rs es):=by
 simp only[deep,ho]
 rw[if_pos (by omega)]
 simp only[List.drop_zero,List.take_length]
 rw[hR0 (fun c hc' d hd=>kD0 k d (h c hc' d hd))]
theorem sc0{T:Tab}{t elem:TypeId}{z bt:Nat}(h1:(T t).map TI.und=some (.slice elem))(h2:(T elem).map TI.size=some z)(h3:(T elem).map TI.bytes=some bt){es:List (List AV)}
  (hc:(es.all fun c=>c.length==z&&c.all AV.one)=true) (hl:(2*es.length+1000)*bt<=2^48) (hl2:es.length<=2^62) (hz:0<z):∃ σ',iM0 T t [.rs es] c9.none=some (.ms 5 z 0 es.length,σ')/\σ'.objs 5=some (.row elem z es):=by
 cases h5:T t with
 | none=>rw[h5]at h1;cases h1
 | some ti =>
  rw[h5]at h1
  obtain⟨und,size,zero,bytes,flat⟩:=ti
  simp only[Option.map_some,Option.some.injEq]at h1
  subst h1
  cases h7:T elem with
  | none=>rw[h7]at h2;cases h2
  | some ei =>
   rw[h7]at h2 h3
   simp only[Option.map_some,Option.some.injEq]at h2 h3
   subst h2;subst h3
   simp only[iM0,h5,h7,P6]
   rw[if_pos ⟨hc,hl,hl2,hz⟩]
   have hn:(AV.rs es).isNil≠some true:=by cases es<;>simp[AV.isNil]
   split
   ·rename_i e;exact absurd e hn
   ·exact⟨_,rfl,by rw[c9.objs_set];rfl⟩
theorem iu0 {P:Program} {T:Tab} (hT:C2 P T) {f:FuncId} {fn:Func} {t elem:TypeId} {z bt:Nat} (hf:P.funcs[f]?=some fn) (hname:(fn.name== "runtime.NumGoroutine")=false) (hfn:ft0 fn t=true)
  (h1:(T t).map TI.und=some (.slice elem)) (h2:(T elem).map TI.size=some z) (h3:(T elem).map TI.bytes=some bt) {es:List (List AV)} (hp:∀ c∈es,∀ d∈c,AV.pure 99 d=true)
  (hc:(es.all fun c=>c.length==z&&c.all AV.one)=true) (hl:(2*es.length+1000)*bt<=2^48) (hl2:es.length<=2^62) (hz:0<z):F3 P ⟨f,[.rs es],.rs es⟩:=by
 obtain⟨σ',ha,ho⟩:=sc0 h1 h2 h3 hc hl hl2 hz
 have hpure:([AV.rs es]).all (AV.pure 100)=true:=by
  rw[List.all_cons,List.all_nil,Bool.and_true]
  exact wv0 (k:=99) hp
 exact fun σ=>sb0 (k:=100) hpure (vZ0 (k:=99) ho hp) (ks0 hT hf hname (lv0 hfn) ha).1 σ
end Go.Ab
namespace Go.Ab
open Go
variable [B0]
noncomputable def pick(P:Program)(f:FuncId)(Q:List AV->AV->Prop)(args:List AV):Option AV :=
 open Classical in if h:∃ r,Q args r/\F3 P ⟨f,args,r⟩then some h.choose else none
end Go.Ab
namespace Go.Ab
open Go
variable [B0]
theorem Rel.frameH{G G':j4}{σ σv σv' σ':c9}{w w':World}(hfull:Rel G σ w)(hview:∀ id o,σv.objs id=some o->σ.objs id=some o)(hrel:Rel G' σv' w')(hfr:Fr G σv w G' σv' w')(hw0:G'.w0=G.w0)
  (hpl:∀ id o,σ.objs id=some o->σv.objs id=none->G'.pl id=G.pl id) (hob:∀ id o,σ.objs id=some o->σv.objs id=none->∀ p ho,N2 G p o ho->N2 G' p o ho)
  (hnext:∀ id,σ'.next<=id->G'.pl id=none) (hσ:∀ id o,σ'.objs id=some o->σv'.objs id=some o\/(σ.objs id=some o/\σv.objs id=none)):Rel G' σ' w'/\Fr G σ w G' σ' w':=by
 have hs:=hfr.size
 have notlive:∀ id o p,σ.objs id=some o->σv.objs id=none->G.pl id=some p->p.virt=false->∀ id0 o0 p0,σv.objs id0=some o0->G.pl id0=some p0->p0.virt=false->p0.block≠p.block :=
  fun id o p h1 h2 h3 h4 id0 o0 p0 g1 g2 g3 g4=>by
   have:=hfull.sep id0 id o0 o p0 p (hview _ _ g1) h1 g2 h3 g3 h4 g4
   rw[this,h2]at g1;cases g1
 refine⟨⟨hrel.os,hrel.tape,hrel.output,hrel.size,hrel.imm,hnext,fun id o ho=>?_,fun i j oi oj pi pj h1 h2 h3 h4 v1 v2 h5=>?_,hrel.glob⟩,?_⟩
 ·rcases hσ id o ho with h1 | ⟨h1,h2⟩
  ·exact hrel.objs id o h1
  ·obtain⟨p,hp,hl⟩:=hfull.objs id o h1
   refine⟨p,by rw[hpl _ _ h1 h2];exact hp,?_⟩
   rcases hl with hl | ⟨hv,hi1,hi2,hi3⟩
   ·exact .inl hl
   ·refine .inr ⟨hv,?_,by rw[hw0];exact hi2,?_⟩
    ·cases hb:G'.imm p.block with
     | none=>rfl
     | some x =>
      rcases hfr.imm _ _ hb with g | g | ⟨id0,o0,p0,g1,g2,g3,g4⟩
      ·rw[hi1]at g;cases g
      ·have:=hfull.obj_lt h1 hp hv;omega
      ·exact absurd g4 (notlive id o p h1 h2 hp hv id0 o0 p0 g1 g2 g3)
    ·rw[hfr.same p.block (hfull.obj_lt h1 hp hv) (fun id0 o0 p0 g1 g2 g3=>notlive id o p h1 h2 hp hv id0 o0 p0 g1 g2 g3)]
     exact hob _ _ h1 h2 _ _ hi3
 ·have T4:∀ i j oi oj pi pj,σv'.objs i=some oi->σ.objs j=some oj->σv.objs j=none->G'.pl i=some pi->G'.pl j=some pj->pi.virt=false->pj.virt=false->pi.block≠pj.block:=by
   intro i j oi oj pi pj a1 a2 a3 a4 a5 a6 a7 a8
   have b5:G.pl j=some pj:=by rw[<- hpl _ _ a2 a3];exact a5
   have hlt:=hfull.obj_lt a2 b5 a7
   obtain⟨id0,o0,p0,g1,g2,g3,g4⟩:=hfr.live i oi pi a1 a4 a6 (by omega)
   exact notlive j oj pj a2 a3 b5 a7 id0 o0 p0 g1 g2 g3 (by omega)
  rcases hσ i oi h1 with a | ⟨a,a'⟩<;>rcases hσ j oj h2 with b | ⟨b,b'⟩
  ·exact hrel.sep i j oi oj pi pj a b h3 h4 v1 v2 h5
  ·exact absurd h5 (T4 i j oi oj pi pj a b b' h3 h4 v1 v2)
  ·exact absurd h5.symm (T4 j i oj oi pj pi b a a' h4 h3 v2 v1)
  ·exact hfull.sep i j oi oj pi pj a b (by rw[<- hpl _ _ a a'];exact h3) (by rw[<- hpl _ _ b b'];exact h4) v1 v2 h5
 ·refine⟨hfr.size,fun b hb hn=>hfr.same b hb (fun id o p h1 h2 h3=>hn id o p (hview _ _ h1) h2 h3),fun id o p h1 h2 h3 h4=>?_,fun b o hb=>?_,hfr.drawn⟩
  ·rcases hσ id o h1 with a | ⟨a,a'⟩
   ·obtain⟨id0,o0,p0,g1,g2,g3,g4⟩:=hfr.live id o p a h2 h3 h4
    exact⟨id0,o0,p0,hview _ _ g1,g2,g3,g4⟩
   ·exact⟨id,o,p,a,by rw[<- hpl _ _ a a'];exact h2,h3,rfl⟩
  ·rcases hfr.imm b o hb with g | g | ⟨id0,o0,p0,g1,g2,g3,g4⟩
   ·exact .inl g
   ·exact .inr (.inl g)
   ·exact .inr (.inr ⟨id0,o0,p0,hview _ _ g1,g2,g3,g4⟩)
def O3:List (Nat×l7)->Nat->Option l7
 | [],_=>none
 | p::l,i=>if i=p.1 then some p.2 else O3 l i
def addH:List (Nat×l7)->c9->c9
 | [],σ=>σ
 | p::l,σ=>(addH l σ).set p.1 p.2
theorem F1(σ:c9)(i:Nat):∀ H:List (Nat×l7),(addH H σ).objs i=match O3 H i with | some o=>some o | none=>σ.objs i
 | []=>rfl
 | p::l=>by
  simp only[addH,c9.objs_set,O3]
  split
  ·rfl
  ·exact F1 σ i l
theorem Y5(σ:c9):∀ H:List (Nat×l7),(addH H σ).next=σ.next
 | []=>rfl
 | p::l=>by simp only[addH,c9.set_next];exact Y5 σ l
theorem T2:∀ {H:List (Nat×l7)} {i:Nat} {o:l7},O3 H i=some o->(i,o)∈H
 | [],_,_,h=>by cases h
 | p::l,i,o,h=>by
  unfold O3 at h
  split at h
  ·rename_i e;cases h;subst e;exact List.mem_cons_self
  ·exact List.mem_cons_of_mem _ (T2 h)
def AS.addH(H:List (Nat×l7))(s:AS):AS:={ s with st:=Go.Ab.addH H s.st }
@[simp] theorem AS.addH_st (H:List (Nat×l7)) (s:AS):(s.addH H).st=Go.Ab.addH H s.st:=rfl
@[simp] theorem AS.addH_n (H:List (Nat×l7)) (s:AS):(s.addH H).n=s.n:=rfl
def pureRow:l7->Bool
 | .row _ _ es=>ke0 es
 | _=>false
theorem pF0{G G':j4}(hG:∀ b o,G.imm b=some o->G'.imm b=some o){o:l7}(h:pureRow o=true){p:Pl}{ho:Option Obj}(hk:N2 G p o ho):N2 G' p o ho:=by
 cases o with
 | row e z es =>
  obtain⟨cs,k1,k2,k3,k4,k5⟩:=hk
  refine⟨cs,k1,k2,k3,k4,fun i hi=>⟨(k5 i hi).1,fun j hj hj'=>?_⟩⟩
  exact O5 hG ((k5 i hi).2 j hj hj') (V2 (es:=es) (by simp only[AV.pur];exact h) i hi j hj)
 | _=>simp[pureRow]at h
theorem BWp.frame{P:Program}{n:Nat}{c:Code}{Q:Exit->AS->Prop}{s:AS}{H:List (Nat×l7)}(hn:∀ p∈H,p.1<n/\pureRow p.2=true/\s.st.objs p.1=none)(h:BWp P n c Q s) :
  BWp P n c (fun e t=>∃ s',Q e s'/\t=s'.addH H) (s.addH H):=by
 intro hnx G a w hr
 have hsome:∀ i o,s.st.objs i=some o->(Go.Ab.addH H s.st).objs i=some o:=fun i o ho=>by
  rw[F1]
  cases hh:O3 H i with
  | none=>exact ho
  | some o'=>have:=(hn _ (T2 hh)).2.2;rw[show ((i,o'):Nat×l7).1=i from rfl,ho]at this;cases this
 have hnx':n<=s.st.next:=by have:(s.addH H).st.next=s.st.next:=Y5 _ _;omega
 have hrv:aG0 G s a w:=⟨hr.defers,hr.size,hr.tmps,hr.rel.less (Y5 _ _).symm hsome⟩
 refine wp_mono (h hnx' G a w hrv) ?_
 rintro e a' w' ⟨s',G',ht,hr',hq⟩
 have hhid:∀ id o,(Go.Ab.addH H s.st).objs id=some o->s.st.objs id=none->O3 H id=some o:=fun id o h1 h2=>by
  rw[F1]at h1
  cases hh:O3 H id with
  | none=>rw[hh]at h1;simp only[h2]at h1;cases h1
  | some o'=>rw[hh]at h1;exact h1
 have key:=Rel.frameH (σ:=Go.Ab.addH H s.st) (σv:=s.st) (σv':=s'.st) (σ':=Go.Ab.addH H s'.st) hr.rel hsome hr'.rel ht.fr ht.w0
  (fun id o h1 h2=>ht.pl id (hn _ (T2 (hhid id o h1 h2))).1)
  (fun id o h1 h2 p ho=>pF0 ht.imm (hn _ (T2 (hhid id o h1 h2))).2.1)
  (fun id hid=>hr'.rel.fresh id (by rw[Y5]at hid;exact hid))
  (fun id o ho=>by
   rw[F1]at ho
   cases hh:O3 H id with
   | none=>rw[hh]at ho;exact .inl ho
   | some o' =>
    rw[hh]at ho
    simp only[Option.some.injEq]at ho
    subst ho
    exact .inr ⟨by rw[F1,hh],(hn _ (T2 hh)).2.2⟩)
 refine⟨s'.addH H,G',⟨ht.w0,ht.imm,ht.pl,?_,key.2⟩,⟨hr'.defers,hr'.size,hr'.tmps,key.1⟩,s',hq,rfl⟩
 have:(s'.addH H).st.next=s'.st.next:=Y5 _ _
 rw[this];exact ht.nx
theorem BWp.lower{P:Program}{n m:Nat}{c:Code}{Q:Exit->AS->Prop}{s:AS}(hm:m<=n)(hn:n<=s.st.next)(h:BWp P n c Q s):BWp P m c Q s:=by
 intro _ G a w hr
 refine wp_mono (h hn G a w hr) ?_
 rintro e a' w' ⟨s',G',ht,hr',hq⟩
 exact⟨s',G',⟨ht.w0,ht.imm,fun i hi=>ht.pl i (by omega),Nat.le_trans hm ht.nx,ht.fr⟩,hr',hq⟩
theorem BWp.raise{P:Program}{n k:Nat}{c:Code}{Q:Exit->AS->Prop}{s:AS}(hk:s.st.next<=k)(h:BWp P n c Q { s with st:={ s.st with next:=k } }):BWp P n c Q s:=by
 intro hn G a w hr
 have hr':aG0 G { s with st:={ s.st with next:=k } } a w:=⟨hr.defers,hr.size,hr.tmps,hr.rel.next hk⟩
 refine wp_mono (h (Nat.le_trans hn hk) G a w hr') ?_
 rintro e a' w' ⟨s',G',ht,hr2,hq⟩
 exact⟨s',G',⟨ht.w0,ht.imm,ht.pl,ht.nx,(Fr.less (σ:=s.st) (σ':={ s.st with next:=k }) (fun _ _ h=>h)).trans ht.fr⟩,hr2,hq⟩
end Go.Ab
namespace Go.Ab
open Go
variable [B0]
mutual
def AV.ids(p:Nat->Bool):AV->Bool
 | .ms id _ _ _=>p id
 | .mp id _ _=>p id
 | .mm id=>p id
 | .it id=>p id
 | .ss id _ _=>p id
 | .xp id _ _=>p id
 | .rs es=>lV0 p es
 | .rp cs=>kd0 p cs
 | .fn _ a c=>kd0 p a&&kd0 p c
 | .agg cs=>kd0 p cs
 | .tup cs=>kd0 p cs
 | .rm c=>c.ids p
 | _=>true
def kd0(p:Nat->Bool):List AV->Bool
 | []=>true
 | c::cs=>c.ids p&&kd0 p cs
def lV0(p:Nat->Bool):List (List AV)->Bool
 | []=>true
 | c::cs=>kd0 p c&&lV0 p cs
end
theorem U2{p:Nat->Bool}:∀ {l:List AV},kd0 p l=true->∀ v∈l,v.ids p=true
 | [],_,v,hv=>by cases hv
 | c::cs,h,v,hv=>by
  simp only[kd0,Bool.and_eq_true]at h
  rcases List.mem_cons.1 hv with rfl | hv
  ·exact h.1
  ·exact U2 h.2 v hv
theorem cV0{p:Nat->Bool}:∀ {l:List (List AV)},lV0 p l=true->∀ r∈l,kd0 p r=true
 | [],_,v,hv=>by cases hv
 | c::cs,h,v,hv=>by
  simp only[lV0,Bool.and_eq_true]at h
  rcases List.mem_cons.1 hv with rfl | hv
  ·exact h.1
  ·exact cV0 h.2 v hv
mutual
theorem jH0(p:Nat->Bool):∀ v:AV,v.pur=true->v.ids p=true
 | .sc _,_=>by simp[AV.ids]
 | .rs es,h=>by simp only[AV.pur]at h;simp only[AV.ids];exact nP0 p es h
 | .rp cs,h=>by simp only[AV.pur]at h;simp only[AV.ids];exact bL0 p cs h
 | .fn _ a c,h=>by simp only[AV.pur,Bool.and_eq_true]at h;simp only[AV.ids,Bool.and_eq_true];exact⟨bL0 p a h.1,bL0 p c h.2⟩
 | .agg cs,h=>by simp only[AV.pur]at h;simp only[AV.ids];exact bL0 p cs h
 | .tup cs,h=>by simp only[AV.pur]at h;simp only[AV.ids];exact bL0 p cs h
 | .rm c,h=>by simp only[AV.pur]at h;simp only[AV.ids];exact jH0 p c h
 | .any,h=>by simp[AV.pur]at h
 | .ms ..,h=>by simp[AV.pur]at h
 | .mp ..,h=>by simp[AV.pur]at h
 | .mm _,h=>by simp[AV.pur]at h
 | .it _,h=>by simp[AV.pur]at h
 | .sy _,h=>by simp[AV.pur]at h
 | .ss ..,h=>by simp[AV.pur]at h
 | .xp ..,h=>by simp[AV.pur]at h
theorem bL0(p:Nat->Bool):∀ l:List AV,jD0 l=true->kd0 p l=true
 | [],_=>by simp[kd0]
 | c::cs,h=>by simp only[jD0,Bool.and_eq_true]at h;simp only[kd0,Bool.and_eq_true];exact⟨jH0 p c h.1,bL0 p cs h.2⟩
theorem nP0(p:Nat->Bool):∀ l:List (List AV),ke0 l=true->lV0 p l=true
 | [],_=>by simp[lV0]
 | c::cs,h=>by simp only[ke0,Bool.and_eq_true]at h;simp only[lV0,Bool.and_eq_true];exact⟨bL0 p c h.1,nP0 p cs h.2⟩
end
mutual
theorem fe0{θ:Nat->AV}(hθ:Fit θ)(p:Nat->Bool):∀ v:AV,v.ids p=true->(v.sub θ).ids p=true
 | .sc _,_=>by simp[AV.sub,AV.ids]
 | .any,_=>by simp[AV.sub,AV.ids]
 | .sy i,_=>by rw[u5];exact jH0 p _ (hθ i).pur
 | .rs es,h=>by simp only[AV.ids]at h;simp only[AV.sub,AV.ids];exact jK0 hθ p es h
 | .rp cs,h=>by simp only[AV.ids]at h;simp only[AV.sub,AV.ids];exact bT0 hθ p cs h
 | .fn _ a c,h=>by simp only[AV.ids,Bool.and_eq_true]at h;simp only[AV.sub,AV.ids,Bool.and_eq_true];exact⟨bT0 hθ p a h.1,bT0 hθ p c h.2⟩
 | .agg cs,h=>by simp only[AV.ids]at h;simp only[AV.sub,AV.ids];exact bT0 hθ p cs h
 | .tup cs,h=>by simp only[AV.ids]at h;simp only[AV.sub,AV.ids];exact bT0 hθ p cs h
 | .rm c,h=>by simp only[AV.ids]at h;simp only[AV.sub,AV.ids];exact fe0 hθ p c h
 | .ms ..,h=>by simpa[AV.sub,AV.ids]using h
 | .mp ..,h=>by simpa[AV.sub,AV.ids]using h
 | .mm _,h=>by simpa[AV.sub,AV.ids]using h
 | .it _,h=>by simpa[AV.sub,AV.ids]using h
 | .ss ..,h=>by simpa[AV.sub,AV.ids]using h
 | .xp ..,h=>by simpa[AV.sub,AV.ids]using h
theorem bT0{θ:Nat->AV}(hθ:Fit θ)(p:Nat->Bool):∀ l:List AV,kd0 p l=true->kd0 p (Y8 θ l)=true
 | [],_=>by simp[Y8,kd0]
 | c::cs,h=>by simp only[kd0,Bool.and_eq_true]at h;simp only[Y8,kd0,Bool.and_eq_true];exact⟨fe0 hθ p c h.1,bT0 hθ p cs h.2⟩
theorem jK0{θ:Nat->AV}(hθ:Fit θ)(p:Nat->Bool):∀ l:List (List AV),lV0 p l=true->lV0 p (dp0 θ l)=true
 | [],_=>by simp[dp0,lV0]
 | c::cs,h=>by simp only[lV0,Bool.and_eq_true]at h;simp only[dp0,lV0,Bool.and_eq_true];exact⟨bT0 hθ p c h.1,jK0 hθ p cs h.2⟩
end
theorem vP0{G:j4}{ι:Nat->Option (Option Nat)}{p:Nat->Bool}(hp:∀ i,p i=true->ι i=some (some i)){v:AV}{u:Value}(hr:Rep G v u):v.ids p=true->Rep (G.ren ι) v u:=by
 have hpl:∀ i q,p i=true->G.pl i=some q->(G.ren ι).pl i=some q:=fun i q hi hq=>by simp only[j4.ren,hp i hi];exact hq
 induction hr with
 | any v=>intro _;exact .any v
 | sc v=>intro _;exact .sc v
 | rsNil=>intro _;exact .rsNil
 | rs es a cap size val hs hc hlen himm _ ih =>
  intro h
  simp only[AV.ids]at h
  exact .rs es a cap size val hs hc hlen himm (fun i j hi hj=>ih i j hi hj (U2 (cV0 h _ (List.getElem_mem hi)) _ (List.getElem_mem hj)))
 | rp cs a val hs himm _ ih =>
  intro h
  simp only[AV.ids]at h
  exact .rp cs a val hs himm (fun j hj=>ih j hj (U2 h _ (List.getElem_mem hj)))
 | ms id size off len q hq hv hz a c ha ho hl hsp=>intro h;simp only[AV.ids]at h;exact .ms id size off len q (hpl _ _ h hq) hv hz a c ha ho hl hsp
 | msNil id size q hq hv=>intro h;simp only[AV.ids]at h;exact .msNil id size q (hpl _ _ h hq) hv
 | mp id i j q hq=>intro h;simp only[AV.ids]at h;exact .mp id i j q (hpl _ _ h hq)
 | mm id q hq=>intro h;simp only[AV.ids]at h;exact .mm id q (hpl _ _ h hq)
 | it id q hq=>intro h;simp only[AV.ids]at h;exact .it id q (hpl _ _ h hq)
 | rm rows b ents himm hlen ij0 _ ih =>
  intro h
  simp only[AV.ids]at h
  refine .rm rows b ents himm hlen ij0 (fun i hi hi'=>ih i hi hi' ?_)
  have hrow:=cV0 h _ (List.getElem_mem hi)
  generalize rows[i]=r at hrow
  unfold D5
  split
  ·exact U2 hrow _ (by simp)
  ·simp[AV.ids]
 | fn f first cap fv cv h1 h2 _ _ ih1 ih2 =>
  intro h
  simp only[AV.ids,Bool.and_eq_true]at h
  exact .fn f first cap fv cv h1 h2 (fun i hi hi'=>ih1 i hi hi' (U2 h.1 _ (List.getElem_mem hi))) (fun i hi hi'=>ih2 i hi hi' (U2 h.2 _ (List.getElem_mem hi)))
 | agg cs vs h1 _ ih=>intro h;simp only[AV.ids]at h;exact .agg cs vs h1 (fun i hi hi'=>ih i hi hi' (U2 h _ (List.getElem_mem hi)))
 | tup cs vs h1 _ ih=>intro h;simp only[AV.ids]at h;exact .tup cs vs h1 (fun i hi hi'=>ih i hi hi' (U2 h _ (List.getElem_mem hi)))
theorem RV.ids{ι:Nat->Option (Option Nat)}{p:Nat->Bool}(hp:∀ i,p i=true->ι i=some (some i)){v:AV}(h:v.ids p=true):RV ι v v:=fun _ _ hr=>vP0 hp hr h
def l7.ids(p:Nat->Bool):l7->Bool
 | .row _ _ es=>lV0 p es
 | .map _ es _=>es.all fun e=>e.2.1.ids p
 | .siter _ _=>true
 | .miter none _ _ _=>true
 | .miter (some i) _ _ _=>p i
 | .xrow _ _ _=>true
 | .xmap c=>c.ids p
 | .frow ..=>false
 | .xiter _ _=>true
theorem fQ0.ids{ι:Nat->Option (Option Nat)}{p:Nat->Bool}(hp:∀ i,p i=true->ι i=some (some i)){θ:Nat->AV}(hθ:Fit θ){o:l7}(h:o.ids p=true):fQ0 ι (o.sub θ) (o.sub θ):=by
 cases o with
 | row e z es =>
  simp only[l7.ids]at h
  have h2:=jK0 hθ p es h
  rw[bc0]at h2
  refine⟨rfl,rfl,rfl,fun i hi hi'=>⟨rfl,fun j hj hj'=>RV.ids hp ?_⟩⟩
  exact U2 (cV0 h2 _ (List.getElem_mem hi)) _ (List.getElem_mem hj)
 | map agg es c =>
  simp only[l7.ids]at h
  refine⟨rfl,rfl,rfl,fun i hi hi'=>⟨rfl,RV.ids hp ?_,rfl⟩⟩
  have hi1:i<es.length:=by simpa using hi
  simp only[List.getElem_map]
  exact fe0 hθ p _ (List.all_eq_true.1 h _ (List.getElem_mem hi1))
 | siter a b=>exact⟨rfl,rfl⟩
 | miter m a b c =>
  cases m with
  | none=>exact⟨rfl,rfl,rfl⟩
  | some i=>exact⟨hp i h,rfl,rfl,rfl⟩
 | xrow e z i =>
  refine⟨rfl,rfl,rfl,fun a ha ha'=>⟨rfl,fun b hb hb'=>?_⟩⟩
  rcases(hθ i).cases with ⟨_,_,e1⟩ | ⟨_,e1⟩ | ⟨_,e1⟩ | ⟨es,e1⟩ | ⟨_,e1⟩ | ⟨_,e1⟩
  ·simp[e1,rowsOf]at ha
  ·simp[e1,rowsOf]at ha
  ·simp[e1,rowsOf]at ha
  ·have hpu:=(hθ i).pur
   rw[e1]at hpu
   simp only[e1,rowsOf]at ha hb ⊢
   exact RV.ids hp (jH0 p _ (V2 hpu a ha b hb))
  ·simp[e1,rowsOf]at ha
  ·simp[e1,rowsOf]at ha
 | xmap c =>
  simp only[l7.ids]at h
  have h2:=fe0 hθ p c h
  simp only[l7.sub]
  refine⟨rfl,rfl,rfl,fun i hi hi'=>⟨rfl,RV.ids hp ?_,rfl⟩⟩
  have hi1:i<(rowsOf (c.sub θ)).length:=by rw[F2]at hi;exact hi
  rw[Y2 _ _ _ hi hi1]
  generalize c.sub θ=cc at *
  cases cc with
  | rs es =>
   simp only[AV.ids]at h2
   simp only[rowsOf]at hi1 ⊢
   have hrow:=cV0 h2 _ (List.getElem_mem hi1)
   generalize es[i]=r at hrow
   unfold D5
   split
   ·exact U2 hrow _ (by simp)
   ·simp[AV.ids]
  | _=>simp[rowsOf]at hi1
 | frow=>simp[l7.ids]at h
 | xiter s p=>exact⟨rfl,rfl⟩
end Go.Ab
namespace Go.Ab
open Go
variable [B0]
def cg0(row:List AV)(c:Nat×TypeId×Nat):l7:=.row c.2.1 c.2.2 (rowsOf (row.getD c.1 (.rs [])))
def fg0(r:Nat)(row:List AV):bn0->List (Nat×l7)
 | []=>[]
 | c::cs=>(hid r c.1,cg0 row c)::fg0 r row cs
def cZ0(cols:bn0):Nat->List (List AV)->List (Nat×l7)
 | _,[]=>[]
 | r,row::rows=>fg0 r row cols++cZ0 cols (r+1) rows
theorem kR0{r c:Nat}(hc:c<16)(hr:16*(r+1)<=P4):hid r c=16*r+c:=Nat.mod_eq_of_lt (by omega)
theorem gP0(i:Nat):∀ a b:List (Nat×l7),O3 (a++b) i=match O3 a i with | some o=>some o | none=>O3 b i
 | [],b=>rfl
 | p::a,b=>by
  simp only[List.cons_append,O3]
  split
  ·rfl
  ·exact gP0 i a b
theorem gU0{r:Nat}(hr:16*(r+1)<=P4)(row:List AV)(i:Nat):∀ {cols:bn0},(∀ c∈cols,c.1<16)->O3 (fg0 r row cols) i=if i / 16=r then (U9 cols (i%16)).map (cg0 row)else none
 | [],_=>by simp[fg0,O3,U9]
 | c::cs,hc=>by
  have h1:=hc c (by simp)
  have ih:=gU0 hr row i (cols:=cs) (fun c hm=>hc c (by simp[hm]))
  simp only[fg0,O3,kR0 h1 hr]
  by_cases e:i=16*r+c.1
  ·have e1:i / 16=r:=by omega
   have e2:i%16=c.1:=by omega
   rw[if_pos e,if_pos e1,e2]
   simp[U9]
  ·rw[if_neg e,ih]
   split
   ·rename_i e1
    have e2:Nat.beq c.1 (i%16)=false:=by
     cases hb:Nat.beq c.1 (i%16)with
     | false=>rfl
     | true=>have:=Nat.eq_of_beq_eq_true hb;omega
    simp[U9,e2]
   ·rfl
theorem eq0{cols:bn0}(hc:∀ c∈cols,c.1<16)(i:Nat):∀ (rows:List (List AV)) (r0:Nat),16*(r0+rows.length)<=P4->O3 (cZ0 cols r0 rows) i=if r0<=i / 16 then (match rows[i / 16-r0]? with | some row=>(U9 cols (i%16)).map (cg0 row) | none=>none)else none
 | [],r0,_=>by simp[cZ0,O3]
 | row::rows,r0,hb=>by
  have ih:=eq0 hc i rows (r0+1) (by simp at hb;omega)
  simp only[cZ0]
  rw[gP0,gU0 (by simp at hb;omega) row i hc,ih]
  by_cases e:i / 16=r0
  ·simp only[e,if_true,Nat.le_refl,Nat.sub_self,List.getElem?_cons_zero]
   cases U9 cols (i%16)with
   | some c=>rfl
   | none=>simp;intro h;omega
  ·simp only[e,if_false]
   by_cases e2:r0<=i / 16
   ·have e3:r0+1<=i / 16:=by omega
    have e4:i / 16-r0=(i / 16-(r0+1))+1:=by omega
    rw[if_pos e3,if_pos e2,e4,List.getElem?_cons_succ]
   ·rw[if_neg (by omega),if_neg e2]
def jB0(cols:bn0)(rows:List (List AV)):Prop:=16*rows.length<=P4/\(∀ c∈cols,c.1<16)/\(AV.rs rows).pur=true/\∀ r∈rows,∀ c∈cols,∃ xs,r[c.1]?=some (.rs xs)
theorem gl0{cols:bn0}:∀ {rows:List (List AV)} {r0:Nat} {p:Nat×l7},p∈cZ0 cols r0 rows->∃ r row c,rows[r]?=some row/\c∈cols/\p=(hid (r0+r) c.1,cg0 row c)
 | [],_,_,h=>by simp[cZ0]at h
 | row::rows,r0,p,h=>by
  simp only[cZ0,List.mem_append]at h
  rcases h with h | h
  ·have aux:∀ cs:bn0,p∈fg0 r0 row cs->∃ c∈cs,p=(hid r0 c.1,cg0 row c):=by
    intro cs
    induction cs with
    | nil=>intro h;simp[fg0]at h
    | cons c cs ih =>
     intro h
     simp only[fg0,List.mem_cons]at h
     rcases h with h | h
     ·exact⟨c,by simp,h⟩
     ·obtain⟨c',h1,h2⟩:=ih h;exact⟨c',by simp[h1],h2⟩
   obtain⟨c,h1,h2⟩:=aux cols h
   exact⟨0,row,c,by simp,h1,by simpa using h2⟩
  ·obtain⟨r,row',c,h1,h2,h3⟩:=gl0 h
   exact⟨r+1,row',c,by simpa using h1,h2,by rw[h3];congr 2;omega⟩
theorem eh0{cols:bn0}{rows:List (List AV)}(h:jB0 cols rows){p:Nat×l7}(hp:p∈cZ0 cols 0 rows):p.1<P4/\pureRow p.2=true:=by
 obtain⟨r,row,c,h1,h2,rfl⟩:=gl0 hp
 refine⟨dr0 _ _,?_⟩
 obtain⟨hr,rfl⟩:=List.getElem?_eq_some_iff.1 h1
 obtain⟨xs,hx⟩:=h.2.2.2 _ (List.getElem_mem hr) c h2
 have hpur:=h.2.2.1
 obtain⟨hcl,hce⟩:=List.getElem?_eq_some_iff.1 hx
 have:=V2 hpur r hr c.1 hcl
 rw[hce]at this
 simp only[cg0,List.getD_eq_getElem?_getD,hx,Option.getD_some,rowsOf,pureRow]
 simpa only[AV.pur]using this
theorem RV.pur{ι:Nat->Option (Option Nat)}{v:AV}(h:v.pur=true):RV ι v v:=fun G _ hr=>O5 (G:=G) (G':=G.ren ι) (fun _ _ hh=>hh) hr h
theorem fQ0.pureRow{ι:Nat->Option (Option Nat)}{o:l7}(h:pureRow o=true):fQ0 ι o o:=by
 cases o with
 | row e z es=>exact⟨rfl,rfl,rfl,fun i hi hi'=>⟨rfl,fun j hj hj'=>RV.pur (V2 (es:=es) (by simp only[AV.pur];exact h) i hi j hj)⟩⟩
 | _=>simp[Go.Ab.pureRow]at h
theorem RV.ms{ι:Nat->Option (Option Nat)}{a b z o l:Nat}(h:ι a=some (some b)):RV ι (.ms a z o l) (.ms b z o l):=by
 intro G u hr
 cases hr with
 | ms _ _ _ _ p hp hv hz ad c hA ho hl hsp=>exact .ms a z o l p (by simp only[j4.ren,h];exact hp) hv hz ad c hA ho hl hsp
 | msNil _ _ p hp hv=>exact .msNil a z p (by simp only[j4.ren,h];exact hp) hv
theorem RV.msNone{ι:Nat->Option (Option Nat)}{a z:Nat}(h:ι a=some none):RV ι (.ms a z 0 0) (.sc (.slice none 0 0)):=by
 intro G u hr
 cases hr
 exact .msNil a z ⟨0,0,0,true⟩ (by simp only[j4.ren,h]) rfl
theorem bO0(cols:bn0):∀ (row:List AV) (j0 j:Nat),(K3 cols j0 row)[j]?=(row[j]?).map (aQ0 cols (j0+j))
 | [],j0,j=>by simp[K3]
 | v::vs,j0,0=>by simp[K3]
 | v::vs,j0,j+1=>by
  simp only[K3,List.getElem?_cons_succ]
  rw[bO0 cols vs (j0+1) j]
  congr 2;omega
theorem dh0(cols:bn0):∀ (row:List AV) (j0:Nat),(K3 cols j0 row).length=row.length
 | [],_=>rfl
 | _::vs,j0=>by simp[K3,dh0 cols vs]
theorem W2(cols:bn0)(r j:Nat)(v:AV):al0 cols r j v=match U9 cols j with | some c=>.ms (hid r j) c.2.2 0 (rowsOf v).length | none=>v:=rfl
theorem fQ0.cells{ι:Nat->Option (Option Nat)}{e:TypeId}{z:Nat}{A B:List (List AV)}(hl:A.length=B.length)(h:∀ (r:Nat) (ra rb:List AV),A[r]?=some ra->B[r]?=some rb->ra.length=rb.length/\∀ (j:Nat) (x y:AV),ra[j]?=some x->rb[j]?=some y->RV ι x y):fQ0 ι (.row e z A) (.row e z B):=by
 refine⟨rfl,rfl,hl,fun i hi hi'=>?_⟩
 obtain⟨h1,h2⟩:=h i _ _ (List.getElem?_eq_getElem hi) (List.getElem?_eq_getElem hi')
 exact⟨h1,fun j hj hj'=>h2 j _ _ (List.getElem?_eq_getElem hj) (List.getElem?_eq_getElem hj')⟩
theorem bM0(q:Nat)(i:Nat):∀ H:List (Nat×l7),O3 (H.filter (fun p=>!Nat.beq p.1 q)) i=if i=q then none else O3 H i
 | []=>by simp[O3]
 | p::H=>by
  have ih:=bM0 q i H
  by_cases e:p.1=q
  ·have:Nat.beq p.1 q=true:=by rw[Nat.beq_eq];exact e
   simp only[List.filter_cons,this,Bool.not_true,Bool.false_eq_true,if_false,ih,O3]
   by_cases e2:i=q
   ·simp[e2]
   ·rw[if_neg e2,if_neg e2,if_neg (by omega)]
  ·have:Nat.beq p.1 q=false:=by
    cases hb:Nat.beq p.1 q with
    | false=>rfl
    | true=>exact absurd (Nat.eq_of_beq_eq_true hb) e
   simp only[List.filter_cons,this,Bool.not_false,if_true,O3,ih]
   by_cases e2:i=q
   ·subst e2;rw[if_pos rfl,if_neg (by omega)];simp
   ·rw[if_neg e2];simp[e2]
theorem O9{cols:bn0}{j:Nat}{c:Nat×TypeId×Nat}(h:U9 cols j=some c):c∈cols/\c.1=j:=by
 refine⟨List.mem_of_find?_eq_some h,?_⟩
 have:=List.find?_some h
 exact Nat.eq_of_beq_eq_true this
theorem ma0{cols:bn0}{r r' j j' n:Nat}(hn:16*n<=P4)(hr:r<n)(hr':r'<n)(hj:j<16)(hj':j'<16)(h:hid r j=hid r' j'):r=r'/\j=j':=by
 rw[kR0 hj (by omega),kR0 hj' (by omega)]at h
 omega
theorem jR0{cols:bn0}(hc:∀ c∈cols,c.1<16){rows:List (List AV)}(hl:16*rows.length<=P4){r j:Nat}{row:List AV}(hr:rows[r]?=some row)(hj:j<16):O3 (cZ0 cols 0 rows) (hid r j)=(U9 cols j).map (cg0 row):=by
 have hrl:=(List.getElem?_eq_some_iff.1 hr).1
 rw[eq0 hc _ _ _ (by simpa using hl),kR0 hj (by omega)]
 have e1:(16*r+j) / 16=r:=by omega
 have e2:(16*r+j)%16=j:=by omega
 simp only[e1,e2,Nat.zero_le,if_true,Nat.sub_zero,hr]
theorem jo0{cols:bn0}{rows:List (List AV)}{i:Nat}(hi:P4<=i):O3 (cZ0 cols 0 rows) i=none:=by
 cases hh:O3 (cZ0 cols 0 rows) i with
 | none=>rfl
 | some o =>
  obtain⟨r,row,c,_,_,q3⟩:=gl0 (T2 hh)
  cases q3
  have:=dr0 (0+r) c.1
  omega
def O1(rows:List (List AV))(k off:Nat)(v:AV):List (List AV):=match rows[k]? with
 | some row=>rows.set k (row.set off v)
 | none=>rows
theorem gE0{rows:List (List AV)}{k off:Nat}{v:AV}{row:List AV}(hrow:rows[k]?=some row)(r:Nat):(O1 rows k off v)[r]?=if r=k then some (row.set off v)else rows[r]?:=by
 have hk:=(List.getElem?_eq_some_iff.1 hrow).1
 simp only[O1,hrow,List.getElem?_set]
 by_cases e:k=r
 ·subst e;simp[hk]
 ·simp[e,Ne.symm e]
theorem Q2{rows:List (List AV)}{k off:Nat}{v:AV}:(O1 rows k off v).length=rows.length:=by
 unfold O1
 split<;>simp
theorem jB0.put{cols:bn0}{rows:List (List AV)}(h:jB0 cols rows){k off:Nat}{xs:List (List AV)}(hx:(AV.rs xs).pur=true):jB0 cols (O1 rows k off (.rs xs)):=by
 obtain⟨h1,h2,h3,h4⟩:=h
 cases hrow:rows[k]? with
 | none =>
  have:O1 rows k off (.rs xs)=rows:=by simp[O1,hrow]
  rw[this];exact⟨h1,h2,h3,h4⟩
 | some row =>
  have hrm:row∈rows:=List.mem_of_getElem? hrow
  have hmem:∀ r∈O1 rows k off (.rs xs),r=row.set off (.rs xs)\/r∈rows:=fun r hr=>by
   obtain⟨i,hi⟩:=List.mem_iff_getElem?.1 hr
   rw[gE0 hrow]at hi
   split at hi
   ·cases hi;exact .inl rfl
   ·exact .inr (List.mem_of_getElem? hi)
  refine⟨by rw[Q2];exact h1,h2,?_,fun r hr c hc=>?_⟩
  ·simp only[AV.pur,eP0,List.all_eq_true]at h3 hx ⊢
   intro r hr x hxm
   rcases hmem r hr with rfl | hr
   ·rcases List.mem_or_eq_of_mem_set hxm with hxm | rfl
    ·exact h3 row hrm x hxm
    ·simp only[AV.pur,eP0,List.all_eq_true];exact hx
   ·exact h3 r hr x hxm
  ·rcases hmem r hr with rfl | hr
   ·obtain⟨ys,hy⟩:=h4 row hrm c hc
    rw[List.getElem?_set]
    split
    ·rename_i e
     have hlt:=(List.getElem?_eq_some_iff.1 hy).1
     rw[if_pos (by omega)];exact⟨xs,rfl⟩
    ·exact⟨ys,hy⟩
   ·exact h4 r hr c hc
end Go.Ab
namespace Go.Ab
open Go
variable [B0]
def pu0(n:Nat)(R:List AV)(i:Nat):AV:=match Nat.blt i n with
 | true=>(R[n-1-i]?).getD (.sc (.bool false))
 | false=>.sc (.bool false)
theorem aq0(R:List AV):env R.reverse=pu0 R.length R:=by
 funext i
 unfold env pu0
 cases hb:Nat.blt i R.length with
 | true =>
  have hi:i<R.length:=by simpa[Nat.blt_eq]using hb
  simp only
  rw[List.getElem?_reverse hi]
 | false =>
  have hi:¬ i<R.length:=fun h=>by rw[<- Nat.blt_eq]at h;rw[hb]at h;cases h
  simp only
  rw[List.getElem?_eq_none (by simp;omega)];rfl
def X7(T:Tab)(Φ:H8)(Q:AV->Prop)(r:RT)(n:Nat)(R:List AV)(A:Nat->List AV->Prop):Prop:=n=R.length->X5 T Φ Q r R.reverse A
section
variable {T:Tab} {Φ:H8} {Q:AV->Prop} {n:Nat} {R:List AV} {A:Nat->List AV->Prop}
theorem X7.opL{o:RO}{pat:AV}{r:RT}(vs:List AV)(he:j5 T Φ (pu0 n R) o=some (pat.sub (pu0 (n+vs.length) (vs++R))))(hv:∀ v∈vs,aH0 v)(h:X7 T Φ Q r (n+vs.length) (vs++R) A):X7 T Φ Q (.op o n pat r) n R A:=fun hn=>by
 subst hn
 have e:(vs++R).reverse=R.reverse++vs.reverse:=by simp
 refine X5.opL vs.reverse (by rw[aq0,he,<-e,aq0];congr 3;simp[Nat.add_comm]) (by simp) (fun v hm=>hv v (by simpa using hm)) ?_
 have:=h (by simp[Nat.add_comm])
 rw[e]at this
 exact this
theorem X7.test{i:Nat}{a b:RT}(t:Bool)(hi:pu0 n R i=.sc (.bool t))(h1:t=true->X7 T Φ Q a n R A)(h2:t=false->X7 T Φ Q b n R A):X7 T Φ Q (.test i a b) n R A:=fun hn=>by
 subst hn
 exact X5.test t (by rw[aq0];exact hi) (fun h=>h1 h rfl) (fun h=>h2 h rfl)
theorem X7.retL{c:AV}{l:List Nat}(hl:∀ j∈l,∃ es,pu0 n R j=.rs es)(h:Q (c.sub (pu0 n R))):X7 T Φ Q (.ret c l) n R A:=fun hn=>by
 subst hn
 exact X5.retL (by rw[aq0];exact hl) (by rw[aq0];exact h)
theorem X7.loop{k:Nat}{inits:List AV}{body:RT}(I:Nat->List AV->Prop)(hb:body.bnd (n+k+1)=true)(n0:Nat)(h0:I n0 (inits.map (AV.sub (pu0 n R))))
  (h:∀ m vals,I m vals->vals.length=k->X7 T Φ Q body (n+k+1) (.sc (.bool false)::(vals.reverse++R)) (fun l'=>if l'=n then (fun vals'=>∃ m',m'<m/\I m' vals')else A l')):X7 T Φ Q (.loop n k inits body) n R A:=fun hn=>by
 subst hn
 refine X5.loop I (by simp) hb n0 (by rw[aq0];exact h0) (fun m vals hi hl=>?_)
 have:=h m vals hi hl (by simp[hl];omega)
 simpa using this
end
end Go.Ab
namespace Go.Ab
open Go
variable [B0]
section
variable {T:Tab} {Φ:H8} {θ:Nat->AV} {x y:AV} {a b:Int} {t:TypeId} {k:IntKind}
end
end Go.Ab
namespace Go.Ab
open Go
variable [B0]
mutual
inductive Sp where
 | int (k:IntKind)
 | bool
 | str
 | tt
 | nl
 | sl (l:SpL)
 | agg (l:SpL)
 | ptr (l:SpL)
 | fmap (l:SpL)
 | tup (l:SpL)
 | fn (g:Nat) (l:SpL)
inductive SpL where
 | nil
 | one (s:Sp)
 | cons (s:Sp) (l:SpL)
end
mutual
@[reducible] def Sp.T:Sp->Type
 | .int _=>Int
 | .bool=>Bool
 | .str=>ByteArray
 | .tt=>Unit
 | .nl=>Unit
 | .sl l=>List l.T
 | .agg l=>l.T
 | .ptr l=>l.T
 | .fmap l=>List l.T
 | .tup l=>l.T
 | .fn _ l=>l.T
@[reducible] def SpL.T:SpL->Type
 | .nil=>Unit
 | .one s=>s.T
 | .cons s l=>s.T×l.T
end
mutual
def enc:(s:Sp)->s.T->AV
 | .int k,n=>.sc (.int k n)
 | .bool,b=>.sc (.bool b)
 | .str,s=>.sc (.string s)
 | .tt,_=>.sc (.bool true)
 | .nl,_=>.sc (.slice none 0 0)
 | .sl l,xs=>.rs (xs.map (y3 l))
 | .agg l,x=>.agg (y3 l x)
 | .ptr l,x=>.rp (y3 l x)
 | .fmap l,xs=>.rm (.rs (xs.map (y3 l)))
 | .tup l,x=>.tup (y3 l x)
 | .fn g l,x=>.fn (.func g) [] (y3 l x)
def y3:(l:SpL)->l.T->List AV
 | .nil,_=>[]
 | .one s,x=>[enc s x]
 | .cons s l,x=>enc s x.1::y3 l x.2
end
def IntKind.eqb:IntKind->IntKind->Bool
 | .i8,.i8=>true
 | .i16,.i16=>true
 | .i32,.i32=>true
 | .i64,.i64=>true
 | .u8,.u8=>true
 | .u16,.u16=>true
 | .u32,.u32=>true
 | .u64,.u64=>true
 | _,_=>false
theorem IntKind.eqb_eq:∀ {a b:IntKind},IntKind.eqb a b=true->a=b:=by
 intro a b h
 cases a<;>cases b<;>first | rfl | (simp[IntKind.eqb]at h)
mutual
def Sp.eqb:Sp->Sp->Bool
 | .int k,.int k'=>IntKind.eqb k k'
 | .bool,.bool=>true
 | .str,.str=>true
 | .tt,.tt=>true
 | .nl,.nl=>true
 | .sl l,.sl l'=>l.eqb l'
 | .agg l,.agg l'=>l.eqb l'
 | .ptr l,.ptr l'=>l.eqb l'
 | .fmap l,.fmap l'=>l.eqb l'
 | .tup l,.tup l'=>l.eqb l'
 | .fn g l,.fn g' l'=>Nat.beq g g'&&l.eqb l'
 | _,_=>false
def SpL.eqb:SpL->SpL->Bool
 | .nil,.nil=>true
 | .one s,.one s'=>s.eqb s'
 | .cons s l,.cons s' l'=>s.eqb s'&&l.eqb l'
 | _,_=>false
end
mutual
theorem Sp.eqb_eq:∀ (a b:Sp),a.eqb b=true->a=b
 | .int k,b,h=>by cases b<;>simp[Sp.eqb]at h;rw[IntKind.eqb_eq h]
 | .bool,b,h=>by cases b<;>simp[Sp.eqb]at h;rfl
 | .str,b,h=>by cases b<;>simp[Sp.eqb]at h;rfl
 | .tt,b,h=>by cases b<;>simp[Sp.eqb]at h;rfl
 | .nl,b,h=>by cases b<;>simp[Sp.eqb]at h;rfl
 | .sl l,b,h=>by cases b<;>simp[Sp.eqb]at h;rw[SpL.eqb_eq l _ h]
 | .agg l,b,h=>by cases b<;>simp[Sp.eqb]at h;rw[SpL.eqb_eq l _ h]
 | .ptr l,b,h=>by cases b<;>simp[Sp.eqb]at h;rw[SpL.eqb_eq l _ h]
 | .fmap l,b,h=>by cases b<;>simp[Sp.eqb]at h;rw[SpL.eqb_eq l _ h]
 | .tup l,b,h=>by cases b<;>simp[Sp.eqb]at h;rw[SpL.eqb_eq l _ h]
 | .fn g l,b,h=>by
  cases b<;>simp[Sp.eqb]at h
  rw[h.1,SpL.eqb_eq l _ h.2]
theorem SpL.eqb_eq:∀ (a b:SpL),a.eqb b=true->a=b
 | .nil,b,h=>by cases b<;>simp[SpL.eqb]at h;rfl
 | .one s,b,h=>by cases b<;>simp[SpL.eqb]at h;rw[Sp.eqb_eq s _ h]
 | .cons s l,b,h=>by
  cases b<;>simp[SpL.eqb]at h
  rw[Sp.eqb_eq s _ h.1,SpL.eqb_eq l _ h.2]
end
def mT0{a b:Sp}(h:a.eqb b=true)(x:a.T):b.T:=(Sp.eqb_eq a b h)▸x
theorem bq0{a b:Sp}(h:a.eqb b=true)(x:a.T):enc b (mT0 h x)=enc a x:=by
 have:=Sp.eqb_eq a b h
 subst this
 rfl
def SpL.len:SpL->Nat
 | .nil=>0
 | .one _=>1
 | .cons _ l=>l.len+1
theorem D2:∀ (l:SpL) (x:l.T),(y3 l x).length=l.len
 | .nil,_=>rfl
 | .one _,_=>rfl
 | .cons s l,x=>by simp[y3,SpL.len,D2 l x.2]
mutual
theorem lP0:∀ (s:Sp) (x:s.T),(enc s x).pur=true
 | .int _,_=>rfl
 | .bool,_=>rfl
 | .str,_=>rfl
 | .tt,_=>rfl
 | .nl,_=>rfl
 | .sl l,xs=>by
  simp only[enc,AV.pur,eP0,List.all_map,List.all_eq_true]
  intro x _
  exact aa0 l x
 | .agg l,x=>by simp only[enc,AV.pur,Z0];exact aa0 l x
 | .ptr l,x=>by simp only[enc,AV.pur,Z0];exact aa0 l x
 | .fmap l,xs=>by
  simp only[enc,AV.pur,eP0,List.all_map,List.all_eq_true]
  intro x _
  exact aa0 l x
 | .tup l,x=>by simp only[enc,AV.pur,Z0];exact aa0 l x
 | .fn g l,x=>by simp only[enc,AV.pur,Z0,List.all_nil,Bool.true_and];exact aa0 l x
theorem aa0:∀ (l:SpL) (x:l.T),(y3 l x).all AV.pur=true
 | .nil,_=>rfl
 | .one s,x=>by simp only[y3,List.all_cons,List.all_nil,Bool.and_true];exact lP0 s x
 | .cons s l,x=>by simp only[y3,List.all_cons,lP0 s x.1,aa0 l x.2,Bool.and_self]
end
def Sp.cell:Sp->Bool
 | .int _=>true
 | .bool=>true
 | .str=>true
 | .sl _=>true
 | .ptr _=>true
 | .fmap _=>true
 | _=>false
theorem ug0{s:Sp}(h:s.cell=true)(x:s.T):aH0 (enc s x):=by
 have hp:=lP0 s x
 cases s<;>simp[Sp.cell]at h<;>simp only[enc]at hp ⊢<;>first | trivial | exact hp
def Env:List Sp->Type
 | []=>Unit
 | s::Γ=>s.T×Env Γ
def fu0:(Γ:List Sp)->Env Γ->List AV
 | [],_=>[]
 | s::Γ,e=>enc s e.1::fu0 Γ e.2
theorem E0:∀ (Γ:List Sp) (e:Env Γ),(fu0 Γ e).length=Γ.length
 | [],_=>rfl
 | s::Γ,e=>by simp[fu0,E0 Γ e.2]
def thE(Γ:List Sp)(e:Env Γ):Nat->AV:=pu0 Γ.length (fu0 Γ e)
def oy0:(Γ:List Sp)->Nat->(s:Sp)->Option (Env Γ->s.T)
 | [],_,_=>none
 | g::_,0,s=>match h:g.eqb s with
  | true=>some fun e=>mT0 h e.1
  | false=>none
 | _::Γ,j+1,s=>match oy0 Γ j s with
  | some f=>some fun e=>f e.2
  | none=>none
theorem nD0:∀ (Γ:List Sp) (j:Nat) (s:Sp) (f:Env Γ->s.T),oy0 Γ j s=some f->∀ e,(fu0 Γ e)[j]?=some (enc s (f e))
 | [],_,_,_,h,_=>by simp[oy0]at h
 | g::Γ,0,s,f,h,e=>by
  unfold oy0 at h
  split at h
  ·rename_i hb
   cases h
   simp[fu0,bq0]
  ·cases h
 | g::Γ,j+1,s,f,h,e=>by
  unfold oy0 at h
  split at h
  ·rename_i f' hf
   cases h
   have:=nD0 Γ j s f' hf e.2
   simpa[fu0]using this
  ·cases h
def xt0(Γ:List Sp)(i:Nat)(s:Sp):Option (Env Γ->s.T):=match Nat.blt i Γ.length with
 | true=>oy0 Γ (Γ.length-1-i) s
 | false=>none
theorem mr0{Γ:List Sp}{i:Nat}{s:Sp}{f:Env Γ->s.T}(h:xt0 Γ i s=some f)(e:Env Γ):thE Γ e i=enc s (f e):=by
 unfold xt0 at h
 split at h
 ·rename_i hb
  have:=nD0 Γ _ s f h e
  unfold thE pu0
  rw[hb]
  simp only[this,Option.getD_some]
 ·cases h
def shOf(Γ:List Sp)(i:Nat):Option Sp:=match Nat.blt i Γ.length with
 | true=>Γ[Γ.length-1-i]?
 | false=>none
def tsc:Value->(s:Sp)->Option s.T
 | .int k n,.int k'=>match IntKind.eqb k k' with
  | true=>some n
  | false=>none
 | .bool b,.bool=>some b
 | .string s,.str=>some s
 | .slice none 0 0,.nl=>some ()
 | _,_=>none
theorem vq0{v:Value}{s:Sp}{x:s.T}(h:tsc v s=some x):AV.sc v=enc s x:=by
 unfold tsc at h
 split at h
 ·split at h
  ·rename_i hb
   cases h
   rw[IntKind.eqb_eq hb];rfl
  ·cases h
 ·cases h;rfl
 ·cases h;rfl
 ·rfl
 ·cases h
mutual
def M1(Γ:List Sp):AV->(s:Sp)->Option (Env Γ->s.T)
 | .sy i,s=>xt0 Γ i s
 | .sc v,s=>match tsc v s with
  | some x=>some fun _=>x
  | none=>none
 | .agg cs,.agg l=>bG0 Γ cs l
 | .tup cs,.tup l=>bG0 Γ cs l
 | .rp cs,.ptr l=>bG0 Γ cs l
 | .rs es,.sl l=>qv0 Γ es l
 | .rm c,.fmap l=>M1 Γ c (.sl l)
 | .fn (.func g) [] c,.fn g' l=>match Nat.beq g g' with
  | true=>bG0 Γ c l
  | false=>none
 | _,_=>none
def bG0(Γ:List Sp):List AV->(l:SpL)->Option (Env Γ->l.T)
 | [],.nil=>some fun _=>()
 | [a],.one s=>M1 Γ a s
 | a::as,.cons s l=>match M1 Γ a s with
  | some f=>match bG0 Γ as l with
   | some g=>some fun e=>(f e,g e)
   | none=>none
  | none=>none
 | _,_=>none
def qv0(Γ:List Sp):List (List AV)->(l:SpL)->Option (Env Γ->List l.T)
 | [],_=>some fun _=>[]
 | r::rs,l=>match bG0 Γ r l with
  | some f=>match qv0 Γ rs l with
   | some g=>some fun e=>f e::g e
   | none=>none
  | none=>none
end
mutual
theorem o9{Γ:List Sp}:∀ (a:AV) (s:Sp) (f:Env Γ->s.T),M1 Γ a s=some f->∀ e,a.sub (thE Γ e)=enc s (f e)
 | .sy i,s,f,h,e=>by
  simp only[M1]at h
  simp only[AV.sub]
  exact mr0 h e
 | .sc v,s,f,h,e=>by
  simp only[M1]at h
  split at h
  ·rename_i x hx;cases h;simp only[AV.sub];exact vq0 hx
  ·cases h
 | .agg cs,s,f,h,e=>by
  cases s<;>simp only[M1]at h<;>try (cases h;done)
  simp only[AV.sub,enc,X1 cs _ _ h e]
 | .tup cs,s,f,h,e=>by
  cases s<;>simp only[M1]at h<;>try (cases h;done)
  simp only[AV.sub,enc,X1 cs _ _ h e]
 | .rp cs,s,f,h,e=>by
  cases s<;>simp only[M1]at h<;>try (cases h;done)
  simp only[AV.sub,enc,X1 cs _ _ h e]
 | .rs es,s,f,h,e=>by
  cases s<;>simp only[M1]at h<;>try (cases h;done)
  simp only[AV.sub,enc,oh0 es _ _ h e]
 | .rm c,s,f,h,e=>by
  cases s<;>simp only[M1]at h<;>try (cases h;done)
  simp only[AV.sub,enc,o9 c _ _ h e]
 | .fn g a c,s,f,h,e=>by
  cases g<;>cases a<;>cases s<;>simp only[M1]at h<;>try (cases h;done)
  split at h
  ·rename_i hb
   have:=Nat.eq_of_beq_eq_true hb
   subst this
   simp only[AV.sub,enc,X1 c _ _ h e,Y8]
  ·cases h
 | .any,s,f,h,e=>by cases s<;>simp only[M1]at h<;>cases h
 | .ms _ _ _ _,s,f,h,e=>by cases s<;>simp only[M1]at h<;>cases h
 | .mp _ _ _,s,f,h,e=>by cases s<;>simp only[M1]at h<;>cases h
 | .mm _,s,f,h,e=>by cases s<;>simp only[M1]at h<;>cases h
 | .it _,s,f,h,e=>by cases s<;>simp only[M1]at h<;>cases h
 | .ss _ _ _,s,f,h,e=>by cases s<;>simp only[M1]at h<;>cases h
 | .xp _ _ _,s,f,h,e=>by cases s<;>simp only[M1]at h<;>cases h
theorem X1{Γ:List Sp}:∀ (as:List AV) (l:SpL) (f:Env Γ->l.T),bG0 Γ as l=some f->∀ e,Y8 (thE Γ e) as=y3 l (f e)
 | [],l,f,h,e=>by
  cases l<;>simp only[bG0]at h<;>try (cases h;done)
  rfl
 | [a],l,f,h,e=>by
  cases l with
  | nil=>simp only[bG0]at h;cases h
  | one s=>simp only[bG0]at h;simp only[Y8,y3,o9 a s f h e]
  | cons s l =>
   simp only[bG0]at h
   split at h
   ·rename_i f' hf
    split at h
    ·rename_i g hg
     cases h
     have:=X1 [] l g (by simpa only[bG0]using hg) e
     simp only[Y8]at this
     simp only[Y8,y3,o9 a s f' hf e,<-this]
    ·cases h
   ·cases h
 | a::b::as,l,f,h,e=>by
  cases l with
  | nil=>simp only[bG0]at h;cases h
  | one s=>simp only[bG0]at h;cases h
  | cons s l =>
   simp only[bG0]at h
   split at h
   ·rename_i f' hf
    split at h
    ·rename_i g hg
     cases h
     have:=X1 (b::as) l g hg e
     rw[Y8,y3,o9 a s f' hf e,this]
    ·cases h
   ·cases h
theorem oh0{Γ:List Sp}:∀ (es:List (List AV)) (l:SpL) (f:Env Γ->List l.T),qv0 Γ es l=some f->∀ e,dp0 (thE Γ e) es=(f e).map (y3 l)
 | [],l,f,h,e=>by simp only[qv0]at h;cases h;rfl
 | r::rs,l,f,h,e=>by
  simp only[qv0]at h
  split at h
  ·rename_i f' hf
   split at h
   ·rename_i g hg
    cases h
    simp only[dp0,List.map_cons,X1 r l f' hf e,oh0 rs l g hg e]
   ·cases h
  ·cases h
end
def SpL.ofList:List Sp->SpL
 | []=>.nil
 | [s]=>.one s
 | s::t=>.cons s (SpL.ofList t)
mutual
def shp(Γ:List Sp):AV->Option Sp
 | .sy i=>shOf Γ i
 | .sc (.int k _)=>some (.int k)
 | .sc (.bool _)=>some .bool
 | .sc (.string _)=>some .str
 | .sc (.slice none 0 0)=>some .nl
 | .agg cs=>match shpL Γ cs with
  | some l=>some (.agg (SpL.ofList l))
  | none=>none
 | .rp cs=>match shpL Γ cs with
  | some l=>some (.ptr (SpL.ofList l))
  | none=>none
 | .rs (r::_)=>match shpL Γ r with
  | some l=>some (.sl (SpL.ofList l))
  | none=>none
 | .rm c=>match shp Γ c with
  | some (.sl l)=>some (.fmap l)
  | _=>none
 | _=>none
def shpL(Γ:List Sp):List AV->Option (List Sp)
 | []=>some []
 | a::as=>match shp Γ a with
  | some s=>match shpL Γ as with
   | some l=>some (s::l)
   | none=>none
  | none=>none
end
structure Ext(X:Type)(Γ:List Sp) where
 Γ':List Sp
 push:X->Env Γ->Env Γ'
def wx0:Value->(s:Sp)->(Γ:List Sp)->Option (Ext s.T Γ)
 | .bool b,.tt,Γ=>match b with
  | true=>some ⟨Γ,fun _ e=>e⟩
  | false=>none
 | _,_,_=>none
mutual
def bw0:AV->(s:Sp)->(Γ:List Sp)->Option (Ext s.T Γ)
 | .sy i,s,Γ=>match Nat.beq i Γ.length&&s.cell with
  | true=>some ⟨s::Γ,fun v e=>(v,e)⟩
  | false=>none
 | .sc w,s,Γ=>wx0 w s Γ
 | .agg cs,.agg l,Γ=>cy0 cs l Γ
 | .rp cs,.ptr l,Γ=>cy0 cs l Γ
 | .tup cs,.tup l,Γ=>cy0 cs l Γ
 | .fn (.func g) [] cs,.fn g2 l,Γ=>match Nat.beq g g2 with
  | true=>cy0 cs l Γ
  | false=>none
 | _,_,_=>none
def cy0:List AV->(l:SpL)->(Γ:List Sp)->Option (Ext l.T Γ)
 | [],.nil,Γ=>some ⟨Γ,fun _ e=>e⟩
 | [a],.one s,Γ=>bw0 a s Γ
 | a::as,.cons s l,Γ=>match bw0 a s Γ with
  | some ⟨Γ1,p1⟩=>match cy0 as l Γ1 with
   | some ⟨Γ2,p2⟩=>some ⟨Γ2,fun v e=>p2 v.2 (p1 v.1 e)⟩
   | none=>none
  | none=>none
 | _,_,_=>none
end
def ry0{Γ:List Sp}{X:Type}(x:Ext X Γ)(sub:(Nat->AV)->Prop)(v:X)(e:Env Γ):Prop :=
 ∃ vs,fu0 x.Γ' (x.push v e)=vs++fu0 Γ e/\(∀ u∈vs,aH0 u)/\∀ us,sub (pu0 (us++(vs++fu0 Γ e)).length (us++(vs++fu0 Γ e)))
theorem vR0(us:List AV)(v:AV)(R:List AV):pu0 (us++(v::R)).length (us++(v::R)) R.length=v:=by
 unfold pu0
 have h:Nat.blt R.length (us++(v::R)).length=true:=by rw[Nat.blt_eq];simp;omega
 rw[h]
 simp only
 have h2:(us++(v::R)).length-1-R.length=us.length:=by simp
 rw[h2]
 simp
theorem tH0{w:Value}{s:Sp}{Γ:List Sp}{x:Ext s.T Γ}(h:wx0 w s Γ=some x)(v:s.T)(e:Env Γ):ry0 x (fun θ=>(AV.sc w).sub θ=enc s v) v e:=by
 unfold wx0 at h
 split at h
 ·split at h
  ·cases h
   exact⟨[],rfl,by simp,fun us=>rfl⟩
  ·cases h
 ·cases h
mutual
theorem gd0:∀ (a:AV) (s:Sp) (Γ:List Sp) (x:Ext s.T Γ),bw0 a s Γ=some x->∀ v e,ry0 x (fun θ=>a.sub θ=enc s v) v e
 | .sy i,s,Γ,x,h,v,e=>by
  simp only[bw0]at h
  split at h
  ·rename_i hb
   cases h
   simp only[Bool.and_eq_true]at hb
   have hi:=Nat.eq_of_beq_eq_true hb.1
   refine⟨[enc s v],rfl,?_,fun us=>?_⟩
   ·intro u hu
    simp only[List.mem_singleton]at hu
    subst hu
    exact ug0 hb.2 v
   ·simp only[AV.sub]
    rw[hi,<-E0 Γ e]
    exact vR0 us _ _
  ·cases h
 | .sc w,s,Γ,x,h,v,e=>by
  simp only[bw0]at h
  exact tH0 h v e
 | .agg cs,s,Γ,x,h,v,e=>by
  cases s<;>simp only[bw0]at h<;>try (cases h;done)
  rename_i l
  obtain⟨vs,h1,h2,h3⟩:=aU0 cs l Γ x h v e
  exact⟨vs,h1,h2,fun us=>by simp only[AV.sub,enc,h3 us]⟩
 | .rp cs,s,Γ,x,h,v,e=>by
  cases s<;>simp only[bw0]at h<;>try (cases h;done)
  rename_i l
  obtain⟨vs,h1,h2,h3⟩:=aU0 cs l Γ x h v e
  exact⟨vs,h1,h2,fun us=>by simp only[AV.sub,enc,h3 us]⟩
 | .tup cs,s,Γ,x,h,v,e=>by
  cases s<;>simp only[bw0]at h<;>try (cases h;done)
  rename_i l
  obtain⟨vs,h1,h2,h3⟩:=aU0 cs l Γ x h v e
  exact⟨vs,h1,h2,fun us=>by simp only[AV.sub,enc,h3 us]⟩
 | .rs _,s,Γ,x,h,v,e=>by cases s<;>simp only[bw0]at h<;>cases h
 | .rm _,s,Γ,x,h,v,e=>by cases s<;>simp only[bw0]at h<;>cases h
 | .fn g a c,s,Γ,x,h,v,e=>by
  cases g<;>cases a<;>cases s<;>simp only[bw0]at h<;>try (cases h;done)
  split at h
  ·rename_i hb
   have:=Nat.eq_of_beq_eq_true hb
   subst this
   obtain⟨vs,h1,h2,h3⟩:=aU0 c _ Γ x h v e
   exact⟨vs,h1,h2,fun us=>by simp only[AV.sub,enc,h3 us,Y8]⟩
  ·cases h
 | .any,s,Γ,x,h,v,e=>by cases s<;>simp only[bw0]at h<;>cases h
 | .ms _ _ _ _,s,Γ,x,h,v,e=>by cases s<;>simp only[bw0]at h<;>cases h
 | .mp _ _ _,s,Γ,x,h,v,e=>by cases s<;>simp only[bw0]at h<;>cases h
 | .mm _,s,Γ,x,h,v,e=>by cases s<;>simp only[bw0]at h<;>cases h
 | .it _,s,Γ,x,h,v,e=>by cases s<;>simp only[bw0]at h<;>cases h
 | .ss _ _ _,s,Γ,x,h,v,e=>by cases s<;>simp only[bw0]at h<;>cases h
 | .xp _ _ _,s,Γ,x,h,v,e=>by cases s<;>simp only[bw0]at h<;>cases h
theorem aU0:∀ (as:List AV) (l:SpL) (Γ:List Sp) (x:Ext l.T Γ),cy0 as l Γ=some x->∀ v e,ry0 x (fun θ=>Y8 θ as=y3 l v) v e
 | [],l,Γ,x,h,v,e=>by
  cases l<;>simp only[cy0]at h<;>try (cases h;done)
  cases h
  exact⟨[],rfl,by simp,fun us=>rfl⟩
 | [a],l,Γ,x,h,v,e=>by
  cases l with
  | nil=>simp only[cy0]at h;cases h
  | one s =>
   simp only[cy0]at h
   obtain⟨vs,h1,h2,h3⟩:=gd0 a s Γ x h v e
   exact⟨vs,h1,h2,fun us=>by simp only[Y8,y3,h3 us]⟩
  | cons s l =>
   simp only[cy0]at h
   split at h
   ·rename_i Γ1 p1 hf
    split at h
    ·rename_i Γ2 p2 hg
     cases h
     obtain⟨vs,h1,h2,h3⟩:=gd0 a s Γ _ hf v.1 e
     obtain⟨vs',h1',h2',h3'⟩:=aU0 [] l Γ1 _ (by simpa only[cy0]using hg) v.2 (p1 v.1 e)
     simp only at h1 h1'
     refine⟨vs'++vs,by simp only[h1',h1,List.append_assoc],?_,fun us=>?_⟩
     ·intro u hu
      rcases List.mem_append.1 hu with hu | hu
      ·exact h2' u hu
      ·exact h2 u hu
     ·have a1:=h3 (us++vs')
      have a2:=h3' us
      rw[h1]at a2
      simp only[List.append_assoc]at a1 a2 ⊢
      rw[Y8,y3,a1,<-a2]
    ·cases h
   ·cases h
 | a::b::as,l,Γ,x,h,v,e=>by
  cases l with
  | nil=>simp only[cy0]at h;cases h
  | one s=>simp only[cy0]at h;cases h
  | cons s l =>
   simp only[cy0]at h
   split at h
   ·rename_i Γ1 p1 hf
    split at h
    ·rename_i Γ2 p2 hg
     cases h
     obtain⟨vs,h1,h2,h3⟩:=gd0 a s Γ _ hf v.1 e
     obtain⟨vs',h1',h2',h3'⟩:=aU0 (b::as) l Γ1 _ hg v.2 (p1 v.1 e)
     simp only at h1 h1'
     refine⟨vs'++vs,by simp only[h1',h1,List.append_assoc],?_,fun us=>?_⟩
     ·intro u hu
      rcases List.mem_append.1 hu with hu | hu
      ·exact h2' u hu
      ·exact h2 u hu
     ·have a1:=h3 (us++vs')
      have a2:=h3' us
      rw[h1]at a2
      simp only[List.append_assoc]at a1 a2 ⊢
      rw[Y8,y3,a1,<-a2]
    ·cases h
   ·cases h
end
end Go.Ab
namespace Go.Ab
open Go
variable [B0]
structure TF where
 f:FuncId
 dom:SpL
 cod:Sp
 fn:dom.T->Option cod.T
def TF.Ok(Φ:H8)(t:TF):Prop:=∀ x r,t.fn x=some r->∃ φ,Φ t.f=some φ/\φ (y3 t.dom x)=some (enc t.cod r)
structure TO(Γ:List Sp) where
 s:Sp
 g:Env Γ->Option s.T
def TO.Ok(T:Tab)(Φ:H8){Γ:List Sp}(o:RO)(t:TO Γ):Prop:=∀ e v,t.g e=some v->j5 T Φ (thE Γ e) o=some (enc t.s v)
def binI(o:BinOp)(k:IntKind):Option ((s:Sp)×(Int->Int->Option s.T)):=match o with
 | .add=>some ⟨.int k,fun a b=>some (k.wrap (a+b))⟩
 | .sub=>some ⟨.int k,fun a b=>some (k.wrap (a-b))⟩
 | .mul=>some ⟨.int k,fun a b=>some (k.wrap (a*b))⟩
 | .quo=>some ⟨.int k,fun a b=>bif decide (b=0)then none else some (k.wrap (a.tdiv b))⟩
 | .rem=>some ⟨.int k,fun a b=>bif decide (b=0)then none else some (a.tmod b)⟩
 | .and=>some ⟨.int k,fun a b=>some (k.wrap (BitVec.ofInt k.bits a &&& BitVec.ofInt k.bits b).toNat)⟩
 | .or=>some ⟨.int k,fun a b=>some (k.wrap (BitVec.ofInt k.bits a ||| BitVec.ofInt k.bits b).toNat)⟩
 | .eql=>some ⟨.bool,fun a b=>some (decide (a=b))⟩
 | .neq=>some ⟨.bool,fun a b=>some (!decide (a=b))⟩
 | .lss=>some ⟨.bool,fun a b=>some (decide (a<b))⟩
 | .leq=>some ⟨.bool,fun a b=>some (decide (a<=b))⟩
 | .gtr=>some ⟨.bool,fun a b=>some (decide (b<a))⟩
 | .geq=>some ⟨.bool,fun a b=>some (decide (b<=a))⟩
 | _=>none
theorem wM0{T:Tab}{o:BinOp}{k:IntKind}{q:(s:Sp)×(Int->Int->Option s.T)}(h:binI o k=some q){a b:Int}{v:q.1.T}(hv:q.2 a b=some v)(t:TypeId):im0 T o t (.sc (.int k a)) (.sc (.int k b))=some (enc q.1 v):=by
 unfold binI at h
 split at h<;>first | (cases h;done) | skip
 all_goals (cases h;simp only[Option.some.injEq]at hv)
 case h_4 =>
  by_cases hb:b=0
  ·simp[hb]at hv
  ·simp only[hb,decide_false,cond_false,Option.some.injEq]at hv
   subst hv
   simp[im0,tI0,enc,hb]
 case h_5 =>
  by_cases hb:b=0
  ·simp[hb]at hv
  ·simp only[hb,decide_false,cond_false,Option.some.injEq]at hv
   subst hv
   simp[im0,tI0,enc,hb]
 all_goals (subst hv;simp[im0,tI0,enc])
 ·rfl
 ·rfl
def shI(o:BinOp)(k:IntKind):Option (Int->Int->Option Int):=match o with
 | .shl=>some fun a b=>bif decide (b<0)then none else some (k.wrap (a*2^(min b.toNat k.bits)))
 | .shr=>some fun a b=>bif decide (b<0)then none else some (a.fdiv (2^(min b.toNat k.bits)))
 | _=>none
theorem shI_ok{T:Tab}{o:BinOp}{k k':IntKind}{q:Int->Int->Option Int}(h:shI o k=some q){a b v:Int}(hv:q a b=some v)(t:TypeId):im0 T o t (.sc (.int k a)) (.sc (.int k' b))=some (.sc (.int k v)):=by
 unfold shI at h
 split at h<;>first | (cases h;done) | skip
 all_goals
  cases h
  by_cases hb:b<0
  ·simp[hb]at hv
  ·simp only[hb,decide_false,cond_false,Option.some.injEq]at hv
   subst hv
   simp[im0,tI0,hb]
def pK0:(l:SpL)->Option (l.T->l.T->Bool)
 | .one (.int .i64)=>some fun a b=>decide (a=b)
 | .cons (.int .i64) l=>match pK0 l with
  | some g=>some fun a b=>decide (a.1=b.1)&&g a.2 b.2
  | none=>none
 | _=>none
theorem se0:∀ (l:SpL) (g:l.T->l.T->Bool),pK0 l=some g->∃ ints:l.T->List Int,(∀ x,AV.i64s (y3 l x)=some (ints x)/\(ints x).length=l.len)/\∀ a b,(ints a==ints b)=g a b
 | .nil,g,h=>by simp[pK0]at h
 | .one s,g,h=>by
  cases s with
  | int k =>
   cases k<;>simp only[pK0]at h<;>try (cases h;done)
   cases h
   refine⟨fun x=>[x],fun x=>⟨rfl,rfl⟩,fun a b=>?_⟩
   by_cases hab:a=b<;>simp[hab]
  | _=>simp[pK0]at h
 | .cons s l,g,h=>by
  cases s with
  | int k =>
   cases k<;>simp only[pK0]at h<;>try (cases h;done)
   split at h
   ·rename_i g' hg
    cases h
    obtain⟨ints,h1,h2⟩:=se0 l g' hg
    refine⟨fun x=>x.1::ints x.2,fun x=>⟨?_,by simp[SpL.len,(h1 x.2).2]⟩,fun a b=>?_⟩
    ·simp only[y3,enc,AV.i64s,(h1 x.2).1]
    ·have e1:∀ (p q:Int) (x y:List Int),((p::x)==(q::y))=(decide (p=q)&&(x==y)):=fun p q x y=>by
      by_cases hpq:p=q<;>simp[hpq]
     rw[e1,h2]
   ·cases h
  | _=>simp[pK0]at h
def tBin(T:Tab)(Γ:List Sp)(o:BinOp)(t:TypeId)(x y:AV):Option (TO Γ):=match shp Γ x with
 | some (.int k)=>match M1 Γ x (.int k)with
  | some fx=>match shI o k with
   | some q=>match shp Γ y with
    | some (.int k')=>match M1 Γ y (.int k')with
     | some fy=>some ⟨.int k,fun e=>q (fx e) (fy e)⟩
     | none=>none
    | _=>none
   | none=>match M1 Γ y (.int k)with
    | some fy=>match binI o k with
     | some q=>some ⟨q.1,fun e=>q.2 (fx e) (fy e)⟩
     | none=>none
    | none=>none
  | none=>none
 | some .bool=>match M1 Γ x .bool with
  | some fx=>match M1 Γ y .bool with
   | some fy=>match T t with
    | some { und:=.bool,.. }=>match o with
     | .eql=>some ⟨.bool,fun e=>some (fx e==fy e)⟩
     | .neq=>some ⟨.bool,fun e=>some (!(fx e==fy e))⟩
     | _=>none
    | _=>none
   | none=>none
  | none=>none
 | some .str=>match M1 Γ x .str with
  | some fx=>match M1 Γ y .str with
   | some fy=>match o with
    | .eql=>some ⟨.bool,fun e=>some ((fx e).toList==(fy e).toList)⟩
    | .neq=>some ⟨.bool,fun e=>some (!((fx e).toList==(fy e).toList))⟩
    | _=>none
   | none=>none
  | none=>none
 | some (.agg l)=>match M1 Γ x (.agg l)with
  | some fx=>match M1 Γ y (.agg l)with
   | some fy=>match pK0 l with
    | some q=>match T t with
     | some ti=>match ti.flat with
      | some n=>match Nat.beq n l.len with
       | true=>match o with
        | .eql=>some ⟨.bool,fun e=>some (q (fx e) (fy e))⟩
        | .neq=>some ⟨.bool,fun e=>some (!(q (fx e) (fy e)))⟩
        | _=>none
       | false=>none
      | none=>none
     | none=>none
    | none=>none
   | none=>none
  | none=>none
 | _=>none
theorem xz0{T:Tab}{Φ:H8}{Γ:List Sp}{o:BinOp}{t:TypeId}{x y:AV}{r:TO Γ}(h:tBin T Γ o t x y=some r):r.Ok T Φ (.bin o t x y):=by
 intro e v hv
 unfold tBin at h
 split at h
 ·split at h
  ·rename_i fx hfx
   split at h
   ·rename_i q hq
    split at h
    ·split at h
     ·rename_i fy hfy
      cases h
      simp only[j5,o9 _ _ _ hfx e,o9 _ _ _ hfy e,enc]
      exact shI_ok hq hv t
     ·cases h
    ·cases h
   ·split at h
    ·rename_i fy hfy
     split at h
     ·rename_i q hq
      cases h
      simp only[j5,o9 _ _ _ hfx e,o9 _ _ _ hfy e]
      exact wM0 hq hv t
     ·cases h
    ·cases h
  ·cases h
 ·split at h
  ·rename_i fx hfx
   split at h
   ·rename_i fy hfy
    split at h
    ·rename_i ht
     split at h
     ·cases h;cases hv
      simp[j5,o9 _ _ _ hfx e,o9 _ _ _ hfy e,enc,im0,ht]
     ·cases h;cases hv
      simp[j5,o9 _ _ _ hfx e,o9 _ _ _ hfy e,enc,im0,ht]
     ·cases h
    ·cases h
   ·cases h
  ·cases h
 ·split at h
  ·rename_i fx hfx
   split at h
   ·rename_i fy hfy
    split at h
    ·cases h;cases hv
     simp[j5,o9 _ _ _ hfx e,o9 _ _ _ hfy e,enc,im0,tI0]
    ·cases h;cases hv
     simp[j5,o9 _ _ _ hfx e,o9 _ _ _ hfy e,enc,im0,tI0]
    ·cases h
   ·cases h
  ·cases h
 ·split at h
  ·rename_i fx hfx
   split at h
   ·rename_i fy hfy
    split at h
    ·rename_i q hq
     obtain⟨ints,h1,h2⟩:=se0 _ _ hq
     split at h
     ·rename_i ti ht
      split at h
      ·rename_i n hn
       split at h
       ·rename_i hb
        have hb:=Nat.eq_of_beq_eq_true hb
        split at h
        ·cases h;cases hv
         simp only[j5,o9 _ _ _ hfx e,o9 _ _ _ hfy e,enc,im0,(h1 _).1,ht,hn,(h1 _).2,hb,and_self,if_true,h2]
        ·cases h;cases hv
         simp only[j5,o9 _ _ _ hfx e,o9 _ _ _ hfy e,enc,im0,(h1 _).1,ht,hn,(h1 _).2,hb,and_self,if_true,h2]
        ·cases h
       ·cases h
      ·cases h
     ·cases h
    ·cases h
   ·cases h
  ·cases h
 ·cases h
def tUn(Γ:List Sp)(o:UnOp)(x:AV):Option (TO Γ):=match o with
 | .neg=>match shp Γ x with
  | some (.int k)=>match M1 Γ x (.int k)with
   | some fx=>some ⟨.int k,fun e=>some (k.wrap (0-fx e))⟩
   | none=>none
  | _=>none
 | .not=>match M1 Γ x .bool with
  | some fx=>some ⟨.bool,fun e=>some (!(fx e))⟩
  | none=>none
 | _=>none
theorem tUn_ok{T:Tab}{Φ:H8}{Γ:List Sp}{o:UnOp}{x:AV}{r:TO Γ}(h:tUn Γ o x=some r):r.Ok T Φ (.un o x):=by
 intro e v hv
 unfold tUn at h
 split at h
 ·split at h
  ·split at h
   ·rename_i fx hfx
    cases h;cases hv
    simp[j5,o9 _ _ _ hfx e,enc,aUn]
   ·cases h
  ·cases h
 ·split at h
  ·rename_i fx hfx
   cases h;cases hv
   simp[j5,o9 _ _ _ hfx e,enc,aUn]
  ·cases h
 ·cases h
def vJ0(T:Tab)(Γ:List Sp)(s d:TypeId)(x:AV):Option (TO Γ):=match T s with
 | some _=>match T d with
  | some { und:=.int k,.. }=>match shp Γ x with
   | some (.int k')=>match M1 Γ x (.int k')with
    | some fx=>some ⟨.int k,fun e=>some (k.wrap (fx e))⟩
    | none=>none
   | _=>none
  | _=>none
 | none=>none
theorem sV0{T:Tab}{Φ:H8}{Γ:List Sp}{s d:TypeId}{x:AV}{r:TO Γ}(h:vJ0 T Γ s d x=some r):r.Ok T Φ (.conv s d x):=by
 intro e v hv
 unfold vJ0 at h
 split at h
 ·rename_i hs
  split at h
  ·rename_i hd
   split at h
   ·split at h
    ·rename_i fx hfx
     cases h;cases hv
     simp[j5,o9 _ _ _ hfx e,enc,jz0,hs,hd]
    ·cases h
   ·cases h
  ·cases h
 ·cases h
def vT0(Γ:List Sp)(c a b:AV):Option (TO Γ):=match M1 Γ c .bool with
 | some fc=>match shp Γ a with
  | some s=>match M1 Γ a s with
   | some fa=>match M1 Γ b s with
    | some fb=>some ⟨s,fun e=>some (bif fc e then fa e else fb e)⟩
    | none=>none
   | none=>none
  | none=>none
 | none=>none
theorem tL0{T:Tab}{Φ:H8}{Γ:List Sp}{c a b:AV}{r:TO Γ}(h:vT0 Γ c a b=some r):r.Ok T Φ (.pick c a b):=by
 intro e v hv
 unfold vT0 at h
 split at h
 ·rename_i fc hfc
  split at h
  ·split at h
   ·rename_i fa hfa
    split at h
    ·rename_i fb hfb
     cases h;cases hv
     simp only[j5,o9 _ _ _ hfc e,o9 _ _ _ hfa e,o9 _ _ _ hfb e,enc]
     cases fc e<;>rfl
    ·cases h
   ·cases h
  ·cases h
 ·cases h
def nth{α:Type}(xs:List α)(i:Int):Option α:=bif decide (0<=i)then xs[i.toNat]? else none
def tIdx(T:Tab)(Γ:List Sp)(t:TypeId)(x i:AV):Option (TO Γ):=match T t with
 | some { und:=.slice el,.. }=>match T el with
  | some ei=>match shp Γ x with
   | some (.sl l)=>match M1 Γ x (.sl l)with
    | some fx=>match shp Γ i with
     | some (.int k)=>match M1 Γ i (.int k)with
      | some fi=>match Nat.beq l.len ei.size with
       | true=>some ⟨.ptr l,fun e=>nth (fx e) (fi e)⟩
       | false=>none
      | none=>none
     | _=>none
    | none=>none
   | _=>none
  | none=>none
 | _=>none
theorem wQ0{T:Tab}{Φ:H8}{Γ:List Sp}{t:TypeId}{x i:AV}{r:TO Γ}(h:tIdx T Γ t x i=some r):r.Ok T Φ (.idx t x i):=by
 intro e v hv
 unfold tIdx at h
 split at h
 ·rename_i ht
  split at h
  ·rename_i ei he
   split at h
   ·rename_i l hl
    split at h
    ·rename_i fx hfx
     split at h
     ·split at h
      ·rename_i fi hfi
       split at h
       ·rename_i hb
        have hb:=Nat.eq_of_beq_eq_true hb
        cases h
        simp only[nth]at hv
        by_cases h0:0<=fi e
        ·simp only[h0,decide_true,cond_true]at hv
         simp only[j5,o9 _ _ _ hfx e,o9 _ _ _ hfi e,enc,D4,ht,he,h0,if_true]
         rw[List.getElem?_map,hv]
         simp only[Option.map_some,D2,hb,if_true]
        ·simp[h0]at hv
       ·cases h
      ·cases h
     ·cases h
    ·cases h
   ·cases h
  ·cases h
 ·cases h
def homL(s:Sp):(l:SpL)->Option (l.T->List s.T)
 | .nil=>some fun _=>[]
 | .one s'=>match h:s'.eqb s with
  | true=>some fun x=>[mT0 h x]
  | false=>none
 | .cons s' l=>match h:s'.eqb s with
  | true=>match homL s l with
   | some g=>some fun x=>mT0 h x.1::g x.2
   | none=>none
  | false=>none
theorem mB0(s:Sp):∀ (l:SpL) (g:l.T->List s.T),homL s l=some g->∀ x,y3 l x=(g x).map (enc s)
 | .nil,g,h,x=>by simp only[homL]at h;cases h;rfl
 | .one s',g,h,x=>by
  unfold homL at h
  split at h
  ·cases h;simp only[y3,List.map_cons,List.map_nil,bq0]
  ·cases h
 | .cons s' l,g,h,x=>by
  unfold homL at h
  split at h
  ·split at h
   ·rename_i g' hg
    cases h;simp only[y3,List.map_cons,bq0,mB0 s l g' hg x.2]
   ·cases h
  ·cases h
def SpL.head:SpL->Sp
 | .nil=>.tt
 | .one s=>s
 | .cons s _=>s
def kI0(s:ByteArray)(i:Int):Option Int:=bif decide (0<=i)then (s[i.toNat]?).map (fun b=>(b.toNat:Int))else none
def iC0(T:Tab)(Γ:List Sp)(t:TypeId)(x i:AV):Option (TO Γ):=match shp Γ i with
 | some (.int k)=>match M1 Γ i (.int k)with
  | some fi=>match T t with
   | some { und:=.array len el,.. }=>match T el with
    | some ei=>match shp Γ x with
     | some (.agg l)=>match M1 Γ x (.agg l)with
      | some fx=>match homL l.head l with
       | some g=>match Nat.beq l.len len&&(Nat.beq ei.size 1&&!ei.isAgg)with
        | true=>some ⟨l.head,fun e=>nth (g (fx e)) (fi e)⟩
        | false=>none
       | none=>none
      | none=>none
     | _=>none
    | none=>none
   | some { und:=.string,.. }=>match M1 Γ x .str with
    | some fx=>some ⟨.int .u8,fun e=>kI0 (fx e) (fi e)⟩
    | none=>none
   | _=>none
  | none=>none
 | _=>none
theorem pT0{T:Tab}{Φ:H8}{Γ:List Sp}{t:TypeId}{x i:AV}{r:TO Γ}(h:iC0 T Γ t x i=some r):r.Ok T Φ (.index t x i):=by
 intro e v hv
 unfold iC0 at h
 split at h
 ·split at h
  ·rename_i fi hfi
   split at h
   ·rename_i len el _ _ _ _ ht
    split at h
    ·rename_i ei he
     split at h
     ·rename_i l hl
      split at h
      ·rename_i fx hfx
       split at h
       ·rename_i g hg
        split at h
        ·rename_i hb
         simp only[Bool.and_eq_true,Nat.beq_eq,Bool.not_eq_true']at hb
         cases h
         simp only[nth]at hv
         by_cases h0:0<=fi e
         ·simp only[h0,decide_true,cond_true]at hv
          have hlen:(g (fx e)).length=l.len:=by
           have:=congrArg List.length (mB0 _ _ _ hg (fx e))
           rw[D2,List.length_map]at this;exact this.symm
          have hlt:=(List.getElem?_eq_some_iff.1 hv).1
          have h1:fi e<(len:Int):=by
           have:(fi e).toNat<l.len:=by rw[hlen]at hlt;exact hlt
           rw[hb.1]at this
           have key:∀ z:Int,0<=z->z.toNat<len->z<(len:Int):=fun z a b=>by omega
           exact key _ h0 this
          simp only[j5,o9 _ _ _ hfx e,o9 _ _ _ hfi e,enc,cb0,ht,he,h0,h1,and_self,if_true,jX0,E4,hb.2.2,Bool.false_eq_true,if_false,hb.2.1,Nat.mul_one]
          rw[mB0 _ _ _ hg,List.getElem?_map,hv];rfl
         ·simp[h0]at hv
        ·cases h
       ·cases h
      ·cases h
     ·cases h
    ·cases h
   ·rename_i ht
    split at h
    ·rename_i fx hfx
     cases h
     simp only[kI0]at hv
     by_cases h0:0<=fi e
     ·simp only[h0,decide_true,cond_true]at hv
      simp only[j5,o9 _ _ _ hfx e,o9 _ _ _ hfi e,enc,cb0,ht,h0,if_true]
      cases hq:(fx e)[(fi e).toNat]? with
      | none=>rw[hq]at hv;cases hv
      | some b=>rw[hq]at hv;cases hv;rfl
     ·simp[h0]at hv
    ·cases h
   ·cases h
  ·cases h
 ·cases h
def bndI(n:Nat)(x:Option Int)(d:Nat):Option Nat:=match x with
 | none=>some d
 | some i=>bif decide (0<=i)&&decide (i<=n)then some i.toNat else none
def pI0{α:Type}(xs:List α)(lo hi:Option Int):Option (List α):=match bndI xs.length hi xs.length with
 | some h=>match bndI h lo 0 with
  | some l=>some ((xs.take h).drop l)
  | none=>none
 | none=>none
def tC0(Γ:List Sp):Option AV->Option (Env Γ->Option Int)
 | none=>some fun _=>none
 | some a=>match shp Γ a with
  | some (.int k)=>match M1 Γ a (.int k)with
   | some f=>some fun e=>some (f e)
   | none=>none
  | _=>none
theorem nr0{Γ:List Sp}{a:Option AV}{f:Env Γ->Option Int}(h:tC0 Γ a=some f)(e:Env Γ)(n d:Nat):bound n (a.map (AV.sub (thE Γ e))) d=bndI n (f e) d:=by
 unfold tC0 at h
 split at h
 ·cases h;rfl
 ·split at h
  ·split at h
   ·rename_i f' hf
    cases h
    simp only[Option.map_some,o9 _ _ _ hf e,enc,bound,bndI]
    by_cases h0:0<=f' e<;>by_cases h1:f' e<=n<;>simp[h0,h1]
   ·cases h
  ·cases h
def tSlc(T:Tab)(Γ:List Sp)(t:TypeId)(x:AV)(lo hi:Option AV):Option (TO Γ):=match T t with
 | some { und:=.slice el,.. }=>match T el with
  | some ei=>match shp Γ x with
   | some (.sl l)=>match M1 Γ x (.sl l)with
    | some fx=>match tC0 Γ lo with
     | some fl=>match tC0 Γ hi with
      | some fh=>match Nat.beq l.len ei.size with
       | true=>some ⟨.sl l,fun e=>pI0 (fx e) (fl e) (fh e)⟩
       | false=>none
      | none=>none
     | none=>none
    | none=>none
   | _=>none
  | none=>none
 | _=>none
theorem wR0{T:Tab}{Φ:H8}{Γ:List Sp}{t:TypeId}{x:AV}{lo hi:Option AV}{r:TO Γ}(h:tSlc T Γ t x lo hi=some r):r.Ok T Φ (.slc t x lo hi):=by
 intro e v hv
 unfold tSlc at h
 split at h
 ·rename_i ht
  split at h
  ·rename_i ei he
   split at h
   ·split at h
    ·rename_i fx hfx
     split at h
     ·rename_i fl hfl
      split at h
      ·rename_i fh hfh
       split at h
       ·rename_i hb
        have hb:=Nat.eq_of_beq_eq_true hb
        cases h
        simp only[pI0]at hv
        simp only[j5,o9 _ _ _ hfx e,enc,bt0,ht,he,List.length_map,nr0 hfh e,nr0 hfl e]
        split at hv
        ·rename_i h1 hh1
         split at hv
         ·rename_i l1 hl1
          cases hv
          simp only[hh1,hl1]
          rw[if_pos]
          ·rw[<- List.map_take,<-List.map_drop]
          ·rw[List.all_map,List.all_eq_true]
           intro y _
           simp[D2,hb]
         ·cases hv
        ·cases hv
       ·cases h
      ·cases h
     ·cases h
    ·cases h
   ·cases h
  ·cases h
 ·cases h
def tLen(T:Tab)(Γ:List Sp)(t:TypeId)(x:AV):Option (TO Γ):=match T t with
 | some { und:=.slice _,.. }=>match shp Γ x with
  | some (.sl l)=>match M1 Γ x (.sl l)with
   | some fx=>some ⟨.int .i64,fun e=>some ((fx e).length:Int)⟩
   | none=>none
  | _=>none
 | some { und:=.string,.. }=>match M1 Γ x .str with
  | some fx=>some ⟨.int .i64,fun e=>some ((fx e).size:Int)⟩
  | none=>none
 | _=>none
theorem wm0{T:Tab}{Φ:H8}{Γ:List Sp}{t:TypeId}{x:AV}{r:TO Γ}(h:tLen T Γ t x=some r):r.Ok T Φ (.len t x):=by
 intro e v hv
 unfold tLen at h
 split at h
 ·rename_i ht
  split at h
  ·split at h
   ·rename_i fx hfx
    cases h;cases hv
    simp[j5,o9 _ _ _ hfx e,enc,fJ0,ht,goInt]
   ·cases h
  ·cases h
 ·rename_i ht
  split at h
  ·rename_i fx hfx
   cases h;cases hv
   simp[j5,o9 _ _ _ hfx e,enc,fJ0,ht,goInt]
  ·cases h
 ·cases h
def mxI(a b:Int):Int:=if b > a then b else a
def mnI(a b:Int):Int:=if b<a then b else a
def oR0(Γ:List Sp)(k:IntKind):List AV->Option (Env Γ->List Int)
 | []=>some fun _=>[]
 | a::as=>match M1 Γ a (.int k)with
  | some f=>match oR0 Γ k as with
   | some g=>some fun e=>f e::g e
   | none=>none
  | none=>none
theorem jC0{Γ:List Sp}{k:IntKind}:∀ (as:List AV) (f:Env Γ->List Int),oR0 Γ k as=some f->∀ e,as.map (AV.sub (thE Γ e))=(f e).map (fun n=>AV.sc (.int k n))
 | [],f,h,e=>by simp only[oR0]at h;cases h;rfl
 | a::as,f,h,e=>by
  simp only[oR0]at h
  split at h
  ·rename_i f' hf
   split at h
   ·rename_i g hg
    cases h
    simp only[List.map_cons,o9 _ _ _ hf e,enc,jC0 as g hg e]
   ·cases h
  ·cases h
theorem hJ0(k:IntKind):∀ (l:List Int) (a:Int),dQ0 k a (l.map (fun n=>AV.sc (.int k n)))=some (.int k (l.foldl mxI a))
 | [],_=>rfl
 | b::l,a=>by simp only[List.map_cons,dQ0,List.foldl_cons,mxI];exact hJ0 k l _
theorem hq0(k:IntKind):∀ (l:List Int) (a:Int),dY0 k a (l.map (fun n=>AV.sc (.int k n)))=some (.int k (l.foldl mnI a))
 | [],_=>rfl
 | b::l,a=>by simp only[List.map_cons,dY0,List.foldl_cons,mnI];exact hq0 k l _
def tMx(Γ:List Sp)(l:List AV):Option (TO Γ):=match l with
 | a::as=>match shp Γ a with
  | some (.int k)=>match M1 Γ a (.int k)with
   | some f=>match oR0 Γ k as with
    | some g=>some ⟨.int k,fun e=>some ((g e).foldl mxI (f e))⟩
    | none=>none
   | none=>none
  | _=>none
 | []=>none
def tMn(Γ:List Sp)(l:List AV):Option (TO Γ):=match l with
 | a::as=>match shp Γ a with
  | some (.int k)=>match M1 Γ a (.int k)with
   | some f=>match oR0 Γ k as with
    | some g=>some ⟨.int k,fun e=>some ((g e).foldl mnI (f e))⟩
    | none=>none
   | none=>none
  | _=>none
 | []=>none
theorem tMx_ok{T:Tab}{Φ:H8}{Γ:List Sp}{l:List AV}{r:TO Γ}(h:tMx Γ l=some r):r.Ok T Φ (.mx l):=by
 intro e v hv
 unfold tMx at h
 split at h
 ·split at h
  ·split at h
   ·rename_i f hf
    split at h
    ·rename_i g hg
     cases h;cases hv
     simp only[j5,List.map_cons,o9 _ _ _ hf e,enc,uA0,jC0 _ _ hg e,hJ0,Option.map_some]
    ·cases h
   ·cases h
  ·cases h
 ·cases h
theorem tMn_ok{T:Tab}{Φ:H8}{Γ:List Sp}{l:List AV}{r:TO Γ}(h:tMn Γ l=some r):r.Ok T Φ (.mn l):=by
 intro e v hv
 unfold tMn at h
 split at h
 ·split at h
  ·split at h
   ·rename_i f hf
    split at h
    ·rename_i g hg
     cases h;cases hv
     simp only[j5,List.map_cons,o9 _ _ _ hf e,enc,va0,jC0 _ _ hg e,hq0,Option.map_some]
    ·cases h
   ·cases h
  ·cases h
 ·cases h
def Sp.cel1:Sp->Bool
 | .nl=>true
 | s=>s.cell
theorem jr0{s:Sp}(h:s.cel1=true)(x:s.T):(enc s x).one=true:=by
 cases s<;>first | rfl | (simp[Sp.cel1,Sp.cell]at h)
def SpL.cells:SpL->Bool
 | .nil=>true
 | .one s=>s.cel1
 | .cons s l=>s.cel1&&l.cells
theorem cells_one:∀ {l:SpL},l.cells=true->∀ x:l.T,(y3 l x).all AV.one=true
 | .nil,_,_=>rfl
 | .one s,h,x=>by simp only[y3,List.all_cons,List.all_nil,Bool.and_true];exact jr0 h x
 | .cons s l,h,x=>by
  simp only[SpL.cells,Bool.and_eq_true]at h
  simp only[y3,List.all_cons,jr0 h.1,cells_one h.2,Bool.and_self]
def L7{α:Type}(bytes:Nat)(xs ys:List α):Option (List α):=bif decide ((2*(xs.length+ys.length)+1000)*bytes<=2^48)&&decide (xs.length+ys.length<=2^62)then some (xs++ys)else none
def tCat(T:Tab)(Γ:List Sp)(sT xT:TypeId)(x y:AV):Option (TO Γ):=match T sT with
 | some { und:=.slice el,.. }=>match T xT with
  | some xi=>match T el with
   | some ei=>match (match shp Γ x with | some s=>some s | none=>shp Γ y)with
    | some (.sl l)=>match M1 Γ x (.sl l)with
     | some fx=>match M1 Γ y (.sl l)with
      | some fy=>match (!xi.isInt)&&(Nat.beq l.len ei.size&&(l.cells&&Nat.blt 0 ei.size))with
       | true=>some ⟨.sl l,fun e=>L7 ei.bytes (fx e) (fy e)⟩
       | false=>none
      | none=>none
     | none=>none
    | _=>none
   | none=>none
  | none=>none
 | _=>none
theorem xd0{T:Tab}{Φ:H8}{Γ:List Sp}{sT xT:TypeId}{x y:AV}{r:TO Γ}(h:tCat T Γ sT xT x y=some r):r.Ok T Φ (.cat sT xT x y):=by
 intro e v hv
 unfold tCat at h
 split at h
 ·rename_i ht
  split at h
  ·rename_i xi hxi
   split at h
   ·rename_i ei he
    generalize (match shp Γ x with | some s=>some s | none=>shp Γ y)=sh at h
    split at h
    ·rename_i l
     split at h
     ·rename_i fx hfx
      split at h
      ·rename_i fy hfy
       split at h
       ·rename_i hb
        simp only[Bool.and_eq_true,Nat.beq_eq,Bool.not_eq_true',Nat.blt_eq]at hb
        obtain⟨b1,b2,b3,b4⟩:=hb
        cases h
        simp only[L7]at hv
        cases hc:(decide ((2*((fx e).length+(fy e).length)+1000)*ei.bytes<=2^48)&&decide ((fx e).length+(fy e).length<=2^62))with
        | false=>rw[hc]at hv;cases hv
        | true =>
         rw[hc]at hv
         simp only[Bool.and_eq_true,decide_eq_true_eq]at hc
         cases hv
         simp only[j5,o9 _ _ _ hfx e,o9 _ _ _ hfy e,enc,sM0,ht,hxi,he,List.length_map]
         rw[if_pos]
         ·rw[List.map_append]
         ·refine⟨b1,?_,hc.1,hc.2,b4⟩
          rw[List.all_map,List.all_eq_true]
          intro y _
          simp[D2,b2,cells_one b3 y]
       ·cases h
      ·cases h
     ·cases h
    ·cases h
   ·cases h
  ·cases h
 ·cases h
def Sp.flat1:Sp->Bool
 | .int _=>true
 | .bool=>true
 | .str=>true
 | .tt=>true
 | _=>false
def SpL.flat1:SpL->Bool
 | .nil=>true
 | .one s=>s.flat1
 | .cons s l=>s.flat1&&l.flat1
def Sp.flat2:Sp->Bool
 | .agg l=>l.flat1
 | s=>s.flat1
def SpL.flat2:SpL->Bool
 | .nil=>true
 | .one s=>s.flat2
 | .cons s l=>s.flat2&&l.flat2
def Sp.flatS:Sp->Bool
 | .tup l=>l.flat2
 | .agg l=>l.flat1
 | s=>s.flat1
def isSc:AV->Bool
 | .sc _=>true
 | _=>false
theorem og0{s:Sp}(h:s.flat1=true)(x:s.T):∃ v,enc s x=.sc v:=by
 cases s<;>simp[Sp.flat1]at h<;>exact⟨_,rfl⟩
theorem ew0:∀ {l:SpL},l.flat1=true->∀ (x:l.T),(y3 l x).all (fun c=>match c with | .sc _=>true | _=>false)=true
 | .nil,_,_=>rfl
 | .one s,h,x=>by
  obtain⟨v,hv⟩:=og0 (s:=s) h x
  simp[y3,hv]
 | .cons s l,h,x=>by
  simp only[SpL.flat1,Bool.and_eq_true]at h
  obtain⟨v,hv⟩:=og0 h.1 x.1
  simp[y3,hv,ew0 h.2]
theorem ls0:∀ {l:SpL},l.flat2=true->∀ (x:l.T),(y3 l x).all (fun c=>match c with | .sc _=>true | .agg ds=>ds.all (fun d=>match d with | .sc _=>true | _=>false) | _=>false)=true
 | .nil,_,_=>rfl
 | .one s,h,x=>by
  cases s<;>simp[SpL.flat2,Sp.flat2,Sp.flat1]at h<;>simp[y3,enc]
  exact fun d hd=>List.all_eq_true.1 (ew0 h x) d hd
 | .cons s l,h,x=>by
  simp only[SpL.flat2,Bool.and_eq_true]at h
  have:=ls0 h.2 x.2
  rw[y3,List.all_cons,this,Bool.and_true]
  have h1:=h.1
  cases s<;>simp[Sp.flat2,Sp.flat1]at h1<;>simp[enc]
  exact fun d hd=>List.all_eq_true.1 (ew0 h1 x.1) d hd
theorem sZ0{s:Sp}(h:s.flatS=true)(x:s.T):pr0 (enc s x)=true:=by
 cases s<;>simp[Sp.flatS,Sp.flat1]at h<;>simp only[enc,pr0]
 ·exact ew0 h x
 ·exact ls0 h x
def sh0(Γ:List Sp)(f:FuncId)(args:List AV)(fl:Bool)(t:TF):Option (TO Γ):=match Nat.beq t.f f&&(!fl||t.cod.flatS)with
 | true=>match bG0 Γ args t.dom with
  | some fa=>some ⟨t.cod,fun e=>t.fn (fa e)⟩
  | none=>none
 | false=>none
def qT0(Γ:List Sp)(f:FuncId)(args:List AV)(fl:Bool):List TF->Option (TO Γ)
 | []=>none
 | t::ts=>match sh0 Γ f args fl t with
  | some r=>some r
  | none=>qT0 Γ f args fl ts
theorem dP0(θ:Nat->AV):∀ l,Y8 θ l=l.map (AV.sub θ):=fun l=>H6 θ l
theorem rD0{T:Tab}{Φ:H8}{Γ:List Sp}{f:FuncId}{args:List AV}{fl:Bool}{t:TF}{r:TO Γ}(ht:t.Ok Φ)(h:sh0 Γ f args fl t=some r):r.Ok T Φ (.call f args fl):=by
 intro e v hv
 unfold sh0 at h
 split at h
 ·rename_i hb
  simp only[Bool.and_eq_true,Nat.beq_eq,Bool.or_eq_true,Bool.not_eq_true']at hb
  obtain⟨rfl,hb⟩:=hb
  split at h
  ·rename_i fa hfa
   cases h
   obtain⟨φ,h1,h2⟩:=ht _ _ hv
   have h3:=X1 _ _ _ hfa e
   rw[dP0]at h3
   simp only[j5,h1,h3,h2]
   rw[if_pos]
   intro hfl
   rcases hb with hb | hb
   ·rw[hb]at hfl;cases hfl
   ·exact sZ0 hb v
  ·cases h
 ·cases h
theorem nn0{T:Tab}{Φ:H8}{Γ:List Sp}{f:FuncId}{args:List AV}{fl:Bool}:∀ (Ψ:List TF) {r:TO Γ},(∀ t∈Ψ,t.Ok Φ)->qT0 Γ f args fl Ψ=some r->r.Ok T Φ (.call f args fl)
 | [],r,_,h=>by simp[qT0]at h
 | t::ts,r,ht,h=>by
  simp only[qT0]at h
  split at h
  ·rename_i r' hr
   cases h
   exact rD0 (ht t (by simp)) hr
  ·exact nn0 ts (fun t h=>ht t (by simp[h])) h
def isSl(Γ:List Sp)(j:Nat):Bool:=match shOf Γ j with
 | some (.sl l)=>(xt0 Γ j (.sl l)).isSome
 | _=>false
theorem ql0{Γ:List Sp}{j:Nat}(h:isSl Γ j=true)(e:Env Γ):∃ es,thE Γ e j=.rs es:=by
 unfold isSl at h
 split at h
 ·rename_i l _
  cases hv:xt0 Γ j (.sl l)with
  | none=>rw[hv]at h;cases h
  | some f=>exact⟨_,mr0 hv e⟩
 ·cases h
def vH0(Γ:List Sp)(l:List Nat):Option (TO Γ):=match l.all (isSl Γ)with
 | true=>some ⟨.tt,fun _=>some ()⟩
 | false=>none
theorem tr0{T:Tab}{Φ:H8}{Γ:List Sp}{l:List Nat}{r:TO Γ}(h:vH0 Γ l=some r):r.Ok T Φ (.rows l):=by
 intro e v hv
 unfold vH0 at h
 split at h
 ·rename_i hb
  cases h
  exact wI0 fun j hj=>ql0 (List.all_eq_true.1 hb j hj) e
 ·cases h
end Go.Ab
namespace Go.Ab
open Go
variable [B0]
def ilL:(l:SpL)->Option (l.T->List Int)
 | .one (.int .i64)=>some fun a=>[a]
 | .cons (.int .i64) l=>match ilL l with
  | some g=>some fun a=>a.1::g a.2
  | none=>none
 | _=>none
theorem ny0:∀ (l:SpL) (g:l.T->List Int),ilL l=some g->∀ x,AV.i64s (y3 l x)=some (g x)/\(g x).length=l.len
 | .nil,g,h=>by simp[ilL]at h
 | .one s,g,h=>by
  cases s with
  | int k =>
   cases k<;>simp only[ilL]at h<;>try (cases h;done)
   cases h
   exact fun x=>⟨rfl,rfl⟩
  | _=>simp[ilL]at h
 | .cons s l,g,h=>by
  cases s with
  | int k =>
   cases k<;>simp only[ilL]at h<;>try (cases h;done)
   split at h
   ·rename_i g' hg
    cases h
    intro x
    have:=ny0 l g' hg x.2
    exact⟨by simp only[y3,enc,AV.i64s,this.1],by simp[SpL.len,this.2]⟩
   ·cases h
  | _=>simp[ilL]at h
def kyS:(K:Sp)->Option (Bool×(K.T->List Int))
 | .int .i64=>some (false,fun n=>[n])
 | .agg l=>match ilL l with
  | some g=>some (true,g)
  | none=>none
 | _=>none
def eqK:(K:Sp)->Option (K.T->K.T->Bool)
 | .int .i64=>some fun a b=>decide (a=b)
 | .agg l=>pK0 l
 | _=>none
theorem gF0{K:Sp}{b:Bool}{g:K.T->List Int}(h:kyS K=some (b,g))(x:K.T):(enc K x).key=some (b,g x):=by
 cases K with
 | int k =>
  cases k<;>simp only[kyS]at h<;>try (cases h;done)
  cases h;rfl
 | agg l =>
  simp only[kyS]at h
  split at h
  ·rename_i g' hg
   cases h
   simp only[enc,AV.key,(ny0 l _ hg x).1]
  ·cases h
 | _=>simp[kyS]at h
theorem rW0:∀ (l:SpL) (g:l.T->List Int) (q:l.T->l.T->Bool),ilL l=some g->pK0 l=some q->∀ a b,(g a==g b)=q a b
 | .nil,g,q,h,_=>by simp[ilL]at h
 | .one s,g,q,h,h2=>by
  cases s with
  | int k =>
   cases k<;>simp only[ilL]at h<;>try (cases h;done)
   cases h
   simp only[pK0]at h2
   cases h2
   intro a b
   by_cases hab:a=b<;>simp[hab]
  | _=>simp[ilL]at h
 | .cons s l,g,q,h,h2=>by
  cases s with
  | int k =>
   cases k<;>simp only[ilL]at h<;>try (cases h;done)
   split at h
   ·rename_i g' hg
    cases h
    simp only[pK0]at h2
    split at h2
    ·rename_i q' hq
     cases h2
     intro a b
     have:=rW0 l g' q' hg hq a.2 b.2
     have e1:∀ (p q:Int) (x y:List Int),((p::x)==(q::y))=(decide (p=q)&&(x==y)):=fun p q x y=>by
      by_cases hpq:p=q<;>simp[hpq]
     rw[e1,this]
    ·cases h2
   ·cases h
  | _=>simp[ilL]at h
theorem uK0{K:Sp}{b:Bool}{g:K.T->List Int}{q:K.T->K.T->Bool}(h:kyS K=some (b,g))(h2:eqK K=some q)(x y:K.T):ck0 b (g x) (g y)=q x y:=by
 cases K with
 | int k =>
  cases k<;>simp only[kyS]at h<;>try (cases h;done)
  cases h
  simp only[eqK]at h2
  cases h2
  by_cases hxy:x=y<;>simp[ck0,hxy]
 | agg l =>
  simp only[kyS]at h
  split at h
  ·rename_i g' hg
   cases h
   simp only[eqK]at h2
   simp only[ck0]
   exact rW0 l _ q hg h2 x y
  ·cases h
 | _=>simp[kyS]at h
def lkp{K V:Type}(q:K->K->Bool)(k:K):List (K×V)->Option V
 | []=>none
 | p::C=>bif q k p.1 then some p.2 else lkp q k C
def O6{K V:Type}(q:K->K->Bool)(k:K)(v:V):List (K×V)->List (K×V)
 | []=>[(k,v)]
 | p::C=>bif q k p.1 then (k,v)::C else p::O6 q k v C
section
variable {K V:Sp} {b:Bool} {g:K.T->List Int} {q:K.T->K.T->Bool}
theorem jp0(hk:kyS K=some (b,g))(j:Nat)(p:K.T×V.T):D5 j (y3 (.cons K (.one V)) p)=(g p.1,enc V p.2,j):=by
 simp only[y3,D5,gF0 hk]
theorem lY0(hk:kyS K=some (b,g))(hq:eqK K=some q)(k:K.T):∀ (C:List (K.T×V.T)) (j i:Nat),(J6 b (g k) (w8 j (C.map (y3 (.cons K (.one V))))) i).map (·.2)=(lkp q k C).map (enc V)
 | [],j,i=>rfl
 | p::C,j,i=>by
  have ih:=lY0 hk hq k C (j+1) (i+1)
  simp only[List.map_cons,w8,jp0 hk,J6,uK0 hk hq,lkp]
  cases q k p.1 with
  | true=>rfl
  | false=>simpa using ih
theorem put_t(hk:kyS K=some (b,g))(hq:eqK K=some q)(k:K.T)(v:V.T):∀ C:List (K.T×V.T),N4 (enc K k) (enc V v) b (g k) (C.map (y3 (.cons K (.one V))))=(O6 q k v C).map (y3 (.cons K (.one V)))
 | []=>by simp[N4,O6,y3]
 | p::C=>by
  have ih:=put_t hk hq k v C
  simp only[List.map_cons,N4,nk0,jp0 hk,uK0 hk hq,O6]
  cases q k p.1 with
  | true=>simp[y3]
  | false=>simp[ih]
theorem md0(hk:kyS K=some (b,g))(C:List (K.T×V.T)):aK0 (C.map (y3 (.cons K (.one V))))=b\/C=[]:=by
 cases C with
 | nil=>exact .inr rfl
 | cons p C=>left;simp[aK0,y3,gF0 hk]
theorem op0(hk:kyS K=some (b,g)){n:Nat}(hn:∀ x,(g x).length=n):∀ (C:List (K.T×V.T)) (j:Nat),((w8 j (C.map (y3 (.cons K (.one V))))).all fun e=>e.1.length==n)=true
 | [],_=>rfl
 | p::C,j=>by
  simp only[List.map_cons,w8,jp0 hk,List.all_cons,hn,beq_self_eq_true,Bool.true_and]
  exact op0 hk hn C (j+1)
theorem oP0(hk:kyS K=some (b,g))(C:List (K.T×V.T)):((C.map (y3 (.cons K (.one V)))).all Q6)=true:=by
 rw[List.all_map,List.all_eq_true]
 intro p _
 simp[Q6,y3,gF0 hk]
end
def fitK(T:Tab)(kt:TypeId):Sp->Bool
 | .int .i64=>match T kt with
  | some { und:=.int _,.. }=>true
  | _=>false
 | .agg l=>match T kt with
  | some ti=>match ti.flat with
   | some n=>Nat.beq n l.len
   | none=>false
  | none=>false
 | _=>false
theorem kc0{T:Tab}{kt:TypeId}{K V:Sp}{b:Bool}{g:K.T->List Int}(h:kyS K=some (b,g))(hf:fitK T kt K=true)(k:K.T)(C:List (K.T×V.T))(j:Nat):V5 T kt b (g k) (w8 j (C.map (y3 (.cons K (.one V)))))=true:=by
 cases K with
 | int kk =>
  cases kk<;>simp only[kyS]at h<;>try (cases h;done)
  cases h
  simp only[fitK]at hf
  split at hf
  ·rename_i ht
   simp[V5,ht]
  ·cases hf
 | agg l =>
  have h0:=h
  simp only[kyS]at h
  split at h
  ·rename_i g' hg
   cases h
   simp only[fitK]at hf
   split at hf
   ·rename_i ti ht
    split at hf
    ·rename_i n hn
     have hb:=Nat.eq_of_beq_eq_true hf
     simp only[V5,ht,if_true,hn,hb,(ny0 l g hg k).2,Bool.and_eq_true,beq_self_eq_true,true_and]
     exact op0 h0 (fun x=>(ny0 l g hg x).2) C j
    ·cases hf
   ·cases hf
  ·cases h
 | _=>simp[kyS]at h
mutual
def une:AV->(s:Sp)->Option s.T
 | .sc v,s=>tsc v s
 | .agg cs,.agg l=>rJ0 cs l
 | _,_=>none
def rJ0:List AV->(l:SpL)->Option l.T
 | [],.nil=>some ()
 | [a],.one s=>une a s
 | a::as,.cons s l=>match une a s with
  | some x=>match rJ0 as l with
   | some y=>some (x,y)
   | none=>none
  | none=>none
 | _,_=>none
end
mutual
theorem fA0:∀ (a:AV) (s:Sp) (x:s.T),une a s=some x->a=enc s x
 | .sc v,s,x,h=>by simp only[une]at h;exact vq0 h
 | .agg cs,s,x,h=>by
  cases s<;>simp only[une]at h<;>try (cases h;done)
  simp only[enc,ms0 cs _ _ h]
 | .any,s,x,h=>by cases s<;>simp only[une]at h<;>cases h
 | .rs _,s,x,h=>by cases s<;>simp only[une]at h<;>cases h
 | .rp _,s,x,h=>by cases s<;>simp only[une]at h<;>cases h
 | .ms _ _ _ _,s,x,h=>by cases s<;>simp only[une]at h<;>cases h
 | .mp _ _ _,s,x,h=>by cases s<;>simp only[une]at h<;>cases h
 | .mm _,s,x,h=>by cases s<;>simp only[une]at h<;>cases h
 | .it _,s,x,h=>by cases s<;>simp only[une]at h<;>cases h
 | .fn _ _ _,s,x,h=>by cases s<;>simp only[une]at h<;>cases h
 | .tup _,s,x,h=>by cases s<;>simp only[une]at h<;>cases h
 | .sy _,s,x,h=>by cases s<;>simp only[une]at h<;>cases h
 | .ss _ _ _,s,x,h=>by cases s<;>simp only[une]at h<;>cases h
 | .xp _ _ _,s,x,h=>by cases s<;>simp only[une]at h<;>cases h
 | .rm _,s,x,h=>by cases s<;>simp only[une]at h<;>cases h
theorem ms0:∀ (as:List AV) (l:SpL) (x:l.T),rJ0 as l=some x->as=y3 l x
 | [],l,x,h=>by (cases l<;>simp only[rJ0]at h<;>try (cases h;done));rfl
 | [a],l,x,h=>by
  cases l with
  | nil=>simp only[rJ0]at h;cases h
  | one s=>simp only[rJ0]at h;simp only[y3];rw[fA0 a s x h]
  | cons s l =>
   simp only[rJ0]at h
   split at h
   ·rename_i y hy
    split at h
    ·rename_i z hz
     cases h
     have:=ms0 [] l z (by simpa only[rJ0]using hz)
     simp only[y3];rw[fA0 a s y hy,<-this]
    ·cases h
   ·cases h
 | a::b::as,l,x,h=>by
  cases l with
  | nil=>simp only[rJ0]at h;cases h
  | one s=>simp only[rJ0]at h;cases h
  | cons s l =>
   simp only[rJ0]at h
   split at h
   ·rename_i y hy
    split at h
    ·rename_i z hz
     cases h
     simp only[y3];rw[fA0 a s y hy,<-ms0 (b::as) l z hz]
    ·cases h
   ·cases h
end
def orO{α:Type}:Option α->Option α->Option α
 | some a,_=>some a
 | none,z=>z
def nM0(T:Tab)(Γ:List Sp)(t:TypeId)(ix:AV)(ok:Bool)(K V:Sp)(fc:Env Γ->List (K.T×V.T)):Option (TO Γ):=match T t with
 | some { und:=.map kt et,.. }=>match T et with
  | some ei=>match kyS K with
   | some _=>match eqK K with
    | some q=>match fitK T kt K with
     | true=>match M1 Γ ix K with
      | some fi=>match ok with
       | false=>some ⟨V,fun e=>orO (lkp q (fi e) (fc e)) (une ei.zeroAV V)⟩
       | true=>some ⟨.tup (.cons V (.one .bool)),fun e=>match lkp q (fi e) (fc e)with
        | some v=>some (v,true)
        | none=>match une ei.zeroAV V with
         | some z=>some (z,false)
         | none=>none⟩
      | none=>none
     | false=>none
    | none=>none
   | none=>none
  | none=>none
 | _=>none
theorem ne0{m:Option (Nat×AV)}{V:Sp}{o:Option V.T}{z:AV}{ok:Bool}{w:AV}(h:m.map (·.2)=o.map (enc V))
  (hs:∀ v,o=some v->w=(if ok then .tup [enc V v,.sc (.bool true)]else enc V v)) (hn:o=none->w=(if ok then .tup [z,.sc (.bool false)]else z)) :
  some (if ok=true then AV.tup [(match m with | some (_,c)=>(c,true) | none=>(z,false)).1,.sc (.bool (match m with | some (_,c)=>(c,true) | none=>(z,false)).2)]else (match m with | some (_,c)=>(c,true) | none=>(z,false)).1)=some w:=by
 cases m with
 | none=>cases o with
  | none=>rw[hn rfl]
  | some v=>cases h
 | some p=>cases o with
  | none=>cases h
  | some v =>
   simp only[Option.map_some,Option.some.injEq]at h
   rw[hs v rfl,<-h]
def wF0(T:Tab)(Γ:List Sp)(t:TypeId)(c ix:AV)(ok:Bool):Option (TO Γ):=match shp Γ c with
 | some (.sl (.cons K (.one V)))=>match M1 Γ c (.sl (.cons K (.one V)))with
  | some fc=>nM0 T Γ t ix ok K V fc
  | none=>none
 | _=>none
def rd0(T:Tab)(Γ:List Sp)(t:TypeId)(c ix:AV)(ok:Bool):Option (TO Γ):=match shp Γ c with
 | some (.fmap (.cons K (.one V)))=>match M1 Γ c (.fmap (.cons K (.one V)))with
  | some fc=>nM0 T Γ t ix ok K V fc
  | none=>none
 | _=>none
theorem ta0{T:Tab}{Φ:H8}{Γ:List Sp}{t:TypeId}{c ix:AV}{ok:Bool}{r:TO Γ}(h:wF0 T Γ t c ix ok=some r):r.Ok T Φ (.look t c ix ok):=by
 intro e v hv
 unfold wF0 at h
 split at h
 ·rename_i K V _
  split at h
  ·rename_i fc hfc
   unfold nM0 at h
   split at h
   ·rename_i kt et _ _ _ _ ht
    split at h
    ·rename_i ei hei
     split at h
     ·rename_i bg hk
      obtain⟨b,g⟩:=bg
      split at h
      ·rename_i q hq
       split at h
       ·rename_i hf
        split at h
        ·rename_i fi hfi
         have hc:c.sub (thE Γ e)=.rs ((fc e).map (y3 (.cons K (.one V)))):=o9 _ _ _ hfc e
         have hix:ix.sub (thE Γ e)=enc K (fi e):=o9 _ _ _ hfi e
         have hst:(dc0 (.rs ((fc e).map (y3 (.cons K (.one V)))))).objs 0=some (P3 (.rs ((fc e).map (y3 (.cons K (.one V)))))):=by simp[dc0,c9.objs_set]
         have hr:∀ es,rowsOf (.rs es)=es:=fun _=>rfl
         have hcnd:(aK0 ((fc e).map (y3 (.cons K (.one V))))=b\/(w8 0 ((fc e).map (y3 (.cons K (.one V))))).isEmpty=true)/\V5 T kt b (g (fi e)) (w8 0 ((fc e).map (y3 (.cons K (.one V)))))=true:=by
          refine⟨?_,kc0 hk hf _ _ _⟩
          rcases md0 (V:=V) hk (fc e)with h1 | h1
          ·exact .inl h1
          ·rw[h1];right;rfl
         simp only[j5,hc,hix,H9,ht,gF0 hk,hei,hst,P3,hr]
         rw[if_pos hcnd]
         refine ne0 (lY0 (V:=V) hk hq (fi e) (fc e) 0 0) (fun w hl=>?_) (fun hl=>?_)
         ·cases ok with
          | false=>cases h;simp only[hl,orO]at hv;cases hv;rfl
          | true=>cases h;simp only[hl]at hv;cases hv;rfl
         ·cases ok with
          | false=>cases h;simp only[hl,orO]at hv;exact(fA0 _ _ _ hv).symm
          | true =>
           cases h
           simp only[hl]at hv
           split at hv
           ·rename_i z hz
            cases hv
            simp only[enc,y3,if_true,fA0 _ _ _ hz]
           ·cases hv
        ·cases h
       ·cases h
      ·cases h
     ·cases h
    ·cases h
   ·cases h
  ·cases h
 ·cases h
theorem qA0{T:Tab}{Φ:H8}{Γ:List Sp}{t:TypeId}{c ix:AV}{ok:Bool}{r:TO Γ}(h:rd0 T Γ t c ix ok=some r):r.Ok T Φ (.lookr t c ix ok):=by
 intro e v hv
 unfold rd0 at h
 split at h
 ·rename_i K V _
  split at h
  ·rename_i fc hfc
   unfold nM0 at h
   split at h
   ·rename_i kt et _ _ _ _ ht
    split at h
    ·rename_i ei hei
     split at h
     ·rename_i bg hk
      obtain⟨b,g⟩:=bg
      split at h
      ·rename_i q hq
       split at h
       ·rename_i hf
        split at h
        ·rename_i fi hfi
         have hc:c.sub (thE Γ e)=.rm (.rs ((fc e).map (y3 (.cons K (.one V))))):=o9 _ _ _ hfc e
         have hix:ix.sub (thE Γ e)=enc K (fi e):=o9 _ _ _ hfi e
         have hcnd:(aK0 ((fc e).map (y3 (.cons K (.one V))))=b\/((fc e).map (y3 (.cons K (.one V)))).isEmpty=true)/\V5 T kt b (g (fi e)) (w8 0 ((fc e).map (y3 (.cons K (.one V)))))=true/\((fc e).map (y3 (.cons K (.one V)))).all Q6=true:=by
          refine⟨?_,kc0 hk hf _ _ _,oP0 hk _⟩
          rcases md0 (V:=V) hk (fc e)with h1 | h1
          ·exact .inl h1
          ·rw[h1];right;rfl
         simp only[j5,hc,hix,H9,ht,gF0 hk,hei]
         rw[if_pos hcnd]
         refine ne0 (lY0 (V:=V) hk hq (fi e) (fc e) 0 0) (fun w hl=>?_) (fun hl=>?_)
         ·cases ok with
          | false=>cases h;simp only[hl,orO]at hv;cases hv;rfl
          | true=>cases h;simp only[hl]at hv;cases hv;rfl
         ·cases ok with
          | false=>cases h;simp only[hl,orO]at hv;exact(fA0 _ _ _ hv).symm
          | true =>
           cases h
           simp only[hl]at hv
           split at hv
           ·rename_i z hz
            cases hv
            simp only[enc,y3,if_true,fA0 _ _ _ hz]
           ·cases hv
        ·cases h
       ·cases h
      ·cases h
     ·cases h
    ·cases h
   ·cases h
  ·cases h
 ·cases h
def wD0(T:Tab)(Γ:List Sp)(t:TypeId)(c ix v:AV):Option (TO Γ):=match T t with
 | some { und:=.map kt _,.. }=>match shp Γ ix with
  | some K=>match shp Γ v with
   | some V=>match kyS K with
    | some _=>match eqK K with
     | some q=>match fitK T kt K with
      | true=>match M1 Γ c (.sl (.cons K (.one V)))with
       | some fc=>match M1 Γ ix K with
        | some fi=>match M1 Γ v V with
         | some fv=>some ⟨.sl (.cons K (.one V)),fun e=>some (O6 q (fi e) (fv e) (fc e))⟩
         | none=>none
        | none=>none
       | none=>none
      | false=>none
     | none=>none
    | none=>none
   | none=>none
  | none=>none
 | _=>none
theorem sX0{T:Tab}{Φ:H8}{Γ:List Sp}{t:TypeId}{c ix u:AV}{r:TO Γ}(h:wD0 T Γ t c ix u=some r):r.Ok T Φ (.mput t c ix u):=by
 intro e v hv
 unfold wD0 at h
 split at h
 ·rename_i kt _ _ _ _ _ ht
  split at h
  ·rename_i K _
   split at h
   ·rename_i V _
    split at h
    ·rename_i bg hk
     obtain⟨b,g⟩:=bg
     split at h
     ·rename_i q hq
      split at h
      ·rename_i hf
       split at h
       ·rename_i fc hfc
        split at h
        ·rename_i fi hfi
         split at h
         ·rename_i fv hfv
          cases h;cases hv
          have hc:c.sub (thE Γ e)=.rs ((fc e).map (y3 (.cons K (.one V)))):=o9 _ _ _ hfc e
          have hix:ix.sub (thE Γ e)=enc K (fi e):=o9 _ _ _ hfi e
          have hvv:u.sub (thE Γ e)=enc V (fv e):=o9 _ _ _ hfv e
          have hst:(dc0 (.rs ((fc e).map (y3 (.cons K (.one V)))))).objs 0=some (P3 (.rs ((fc e).map (y3 (.cons K (.one V)))))):=by simp[dc0,c9.objs_set]
          have hr:∀ es,rowsOf (.rs es)=es:=fun _=>rfl
          have hu:∃ σ,C6 T (dc0 (.rs ((fc e).map (y3 (.cons K (.one V)))))) t (.mm 0) (enc K (fi e)) (enc V (fv e))=some σ:=by
           simp only[C6,ht,gF0 hk,hst,P3,hr]
           have h1:=kc0 (V:=V) hk hf (fi e) (fc e) 0
           have h0:=kc0 (V:=V) hk hf (fi e) [] 0
           rcases md0 (V:=V) hk (fc e)with h2 | h2
           ·split
            ·exact⟨_,rfl⟩
            ·rw[if_pos ⟨h2,h1⟩];exact⟨_,rfl⟩
           ·rw[if_pos ⟨by rw[h2];rfl,h0⟩];exact⟨_,rfl⟩
          obtain⟨σ,hu⟩:=hu
          simp only[j5,hc,hix,hvv,hu,gF0 hk,hr,put_t hk hq]
          rfl
         ·cases h
        ·cases h
       ·cases h
      ·cases h
     ·cases h
    ·cases h
   ·cases h
  ·cases h
 ·cases h
def wS0(T:Tab)(Γ:List Sp)(t:TypeId)(c:AV):Option (TO Γ):=match T t with
 | some { und:=.map _ _,.. }=>match shp Γ c with
  | some (.sl l)=>match M1 Γ c (.sl l)with
   | some fc=>some ⟨.int .i64,fun e=>some ((fc e).length:Int)⟩
   | none=>none
  | _=>none
 | _=>none
theorem tD0{T:Tab}{Φ:H8}{Γ:List Sp}{t:TypeId}{c:AV}{r:TO Γ}(h:wS0 T Γ t c=some r):r.Ok T Φ (.mlen t c):=by
 intro e v hv
 unfold wS0 at h
 split at h
 ·rename_i ht
  split at h
  ·split at h
   ·rename_i fc hfc
    cases h;cases hv
    have hst:∀ c,(dc0 c).objs 0=some (P3 c):=fun c=>by simp[dc0,c9.objs_set]
    have hr:∀ es,rowsOf (.rs es)=es:=fun _=>rfl
    simp only[j5,fJ0,ht,hst,P3,F2,o9 _ _ _ hfc e,enc,hr,List.length_map,goInt]
   ·cases h
  ·cases h
 ·cases h
def tIsp(Γ:List Sp)(x:AV):Option (TO Γ):=match shp Γ x with
 | some (.ptr l)=>match M1 Γ x (.ptr l)with
  | some _=>some ⟨.tt,fun _=>some ()⟩
  | none=>none
 | _=>none
theorem xf0{T:Tab}{Φ:H8}{Γ:List Sp}{x:AV}{r:TO Γ}(h:tIsp Γ x=some r):r.Ok T Φ (.isp x):=by
 intro e v hv
 unfold tIsp at h
 split at h
 ·split at h
  ·rename_i f hf
   cases h
   simp only[j5,o9 _ _ _ hf e,enc]
  ·cases h
 ·cases h
def tOpn(Γ:List Sp)(n:Nat)(x:AV):Option (TO Γ):=match shp Γ x with
 | some (.ptr l)=>match M1 Γ x (.ptr l)with
  | some f=>match Nat.beq l.len n with
   | true=>some ⟨.ptr l,fun e=>some (f e)⟩
   | false=>none
  | none=>none
 | _=>none
theorem wc0{T:Tab}{Φ:H8}{Γ:List Sp}{n:Nat}{x:AV}{r:TO Γ}(h:tOpn Γ n x=some r):r.Ok T Φ (.opn n x):=by
 intro e v hv
 unfold tOpn at h
 split at h
 ·split at h
  ·rename_i f hf
   split at h
   ·rename_i hb
    have hb:=Nat.eq_of_beq_eq_true hb
    cases h;cases hv
    simp only[j5,o9 _ _ _ hf e,enc,D2,hb,Nat.beq_refl]
   ·cases h
  ·cases h
 ·cases h
def shA(T:Tab):Nat->TypeId->Option (List Sp)
 | 0,_=>none
 | n+1,t=>match T t with
  | some { und:=.int k,.. }=>some [.int k]
  | some { und:=.bool,.. }=>some [.bool]
  | some { und:=.string,.. }=>some [.str]
  | some { und:=.array m e,.. }=>match shA T n e with
   | some l=>some (List.replicate m l).flatten
   | none=>none
  | some { und:=.struct fields,.. }=>fields.toList.foldr (fun f acc=>match shA T n f.type,acc with
   | some a,some b=>some (a++b)
   | _,_=>none) (some [])
  | _=>none
def shT(T:Tab)(t:TypeId):Option Sp:=match T t with
 | some { und:=.int k,.. }=>some (.int k)
 | some { und:=.bool,.. }=>some .bool
 | some { und:=.string,.. }=>some .str
 | some ti=>match ti.isAgg,shA T 6 t with
  | true,some l=>some (.agg (SpL.ofList l))
  | _,_=>none
 | _=>none
def tGl(T:Tab)(Γ:List Sp)(t:TypeId)(g:Nat):Option (TO Γ):=match shT T t with
 | some s=>some ⟨s,fun _=>match qn0 T t g with
  | some a=>une a s
  | none=>none⟩
 | none=>none
theorem tGl_ok{T:Tab}{Φ:H8}{Γ:List Sp}{t:TypeId}{g:Nat}{r:TO Γ}(h:tGl T Γ t g=some r):r.Ok T Φ (.gl t g):=by
 intro e v hv
 unfold tGl at h
 split at h
 ·cases h
  simp only at hv
  split at hv
  ·rename_i a ha
   simp only[j5,ha,fA0 _ _ _ hv]
  ·cases hv
 ·cases h
def tInb(T:Tab)(Γ:List Sp)(t:TypeId)(c i:AV):Option (TO Γ):=match T t with
 | some { und:=.slice el,.. }=>match T el with
  | some _=>match shp Γ c with
   | some (.sl l)=>match M1 Γ c (.sl l)with
    | some fc=>match shp Γ i with
     | some (.int k)=>match M1 Γ i (.int k)with
      | some fi=>some ⟨.tt,fun e=>bif decide (0<=fi e)&&decide (fi e<(fc e).length)then some ()else none⟩
      | none=>none
     | _=>none
    | none=>none
   | _=>none
  | none=>none
 | _=>none
theorem wj0{T:Tab}{Φ:H8}{Γ:List Sp}{t:TypeId}{c i:AV}{r:TO Γ}(h:tInb T Γ t c i=some r):r.Ok T Φ (.inb t c i):=by
 intro e v hv
 unfold tInb at h
 split at h
 ·rename_i el _ _ _ _ ht
  split at h
  ·rename_i ei hel
   split at h
   ·split at h
    ·rename_i fc hfc
     split at h
     ·split at h
      ·rename_i fi hfi
       cases h
       simp only at hv
       cases hb:(decide (0<=fi e)&&decide (fi e<(fc e).length))with
       | false=>rw[hb]at hv;cases hv
       | true =>
        simp only[Bool.and_eq_true,decide_eq_true_eq]at hb
        have hr:∀ es,rowsOf (.rs es)=es:=fun _=>rfl
        simp only[j5,o9 _ _ _ hfc e,o9 _ _ _ hfi e,enc,ht,hel,D4,hr,List.length_map]
        rw[if_pos ⟨hb.1,hb.2,trivial⟩]
      ·cases h
     ·cases h
    ·cases h
   ·cases h
  ·cases h
 ·cases h
def SpL.at:(l:SpL)->Nat->Option ((s:Sp)×(l.T->s.T))
 | .nil,_=>none
 | .one s,j=>match j with
  | 0=>some ⟨s,fun x=>x⟩
  | _+1=>none
 | .cons s l,j=>match j with
  | 0=>some ⟨s,fun x=>x.1⟩
  | j+1=>match l.at j with
   | some ⟨s',f⟩=>some ⟨s',fun x=>f x.2⟩
   | none=>none
theorem wC0:∀ (l:SpL) (j:Nat) (q:(s:Sp)×(l.T->s.T)),l.at j=some q->∀ x,(y3 l x)[j]?=some (enc q.1 (q.2 x))
 | .nil,j,q,h=>by simp[SpL.at]at h
 | .one s,0,q,h=>by simp only[SpL.at]at h;cases h;exact fun x=>rfl
 | .one s,j+1,q,h=>by simp[SpL.at]at h
 | .cons s l,0,q,h=>by simp only[SpL.at]at h;cases h;exact fun x=>rfl
 | .cons s l,j+1,q,h=>by
  simp only[SpL.at]at h
  split at h
  ·rename_i s' f hf
   cases h
   intro x
   have:=wC0 l j _ hf x.2
   simpa[y3]using this
  ·cases h
def SpL.tk:(l:SpL)->Nat->Option ((l':SpL)×(l.T->l'.T))
 | _,0=>some ⟨.nil,fun _=>()⟩
 | .nil,_+1=>none
 | .one s,n+1=>match n with
  | 0=>some ⟨.one s,fun x=>x⟩
  | _+1=>none
 | .cons s l,n+1=>match n with
  | 0=>some ⟨.one s,fun x=>x.1⟩
  | n+1=>match l.tk (n+1)with
   | some ⟨l',f⟩=>some ⟨.cons s l',fun x=>(x.1,f x.2)⟩
   | none=>none
theorem wb0:∀ (l:SpL) (n:Nat) (q:(l':SpL)×(l.T->l'.T)),l.tk n=some q->∀ x,(y3 l x).take n=y3 q.1 (q.2 x)/\n<=l.len
 | l,0,q,h=>by
  cases l<;>(simp only[SpL.tk]at h;cases h;exact fun x=>⟨by simp[y3],Nat.zero_le _⟩)
 | .nil,n+1,q,h=>by simp[SpL.tk]at h
 | .one s,1,q,h=>by simp only[SpL.tk]at h;cases h;exact fun x=>⟨rfl,Nat.le_refl _⟩
 | .one s,n+2,q,h=>by simp[SpL.tk]at h
 | .cons s l,1,q,h=>by simp only[SpL.tk]at h;cases h;exact fun x=>⟨rfl,by simp[SpL.len]⟩
 | .cons s l,n+2,q,h=>by
  simp only[SpL.tk]at h
  split at h
  ·rename_i l' f hf
   cases h
   intro x
   have:=wb0 l (n+1) _ hf x.2
   exact⟨by simp only[y3,List.take_succ_cons,this.1],by simp[SpL.len];omega⟩
  ·cases h
def SpL.dr:(l:SpL)->Nat->Option ((l':SpL)×(l.T->l'.T))
 | l,0=>some ⟨l,fun x=>x⟩
 | .cons _ l,n+1=>match l.dr n with
  | some ⟨l',f⟩=>some ⟨l',fun x=>f x.2⟩
  | none=>none
 | _,_+1=>none
theorem wr0:∀ (l:SpL) (n:Nat) (q:(l':SpL)×(l.T->l'.T)),l.dr n=some q->∀ x,(y3 l x).drop n=y3 q.1 (q.2 x)/\q.1.len+n=l.len
 | l,0,q,h=>by
  cases l<;>(simp only[SpL.dr]at h;cases h;exact fun x=>⟨rfl,by simp⟩)
 | .nil,n+1,q,h=>by simp[SpL.dr]at h
 | .one s,n+1,q,h=>by simp[SpL.dr]at h
 | .cons s l,n+1,q,h=>by
  simp only[SpL.dr]at h
  split at h
  ·rename_i l' f hf
   cases h
   intro x
   have:=wr0 l n _ hf x.2
   have h2:=this.2
   exact⟨by simp only[y3,List.drop_succ_cons,this.1],by simp only[SpL.len]at h2 ⊢;omega⟩
  ·cases h
def ldL(ti:TI)(l:SpL)(off:Nat):Option ((s:Sp)×(l.T->s.T)):=match ti.isAgg with
 | true=>match l.dr off with
  | some ⟨l1,f1⟩=>match l1.tk ti.size with
   | some ⟨l2,f2⟩=>some ⟨.agg l2,fun x=>f2 (f1 x)⟩
   | none=>none
  | none=>none
 | false=>l.at off
theorem ldL_ok{ti:TI}{l:SpL}{off:Nat}{q:(s:Sp)×(l.T->s.T)}(h:ldL ti l off=some q)(x:l.T):E4 ti (y3 l x) off=some (enc q.1 (q.2 x)):=by
 unfold ldL at h
 split at h
 ·rename_i ha
  split at h
  ·rename_i l1 f1 h1
   split at h
   ·rename_i l2 f2 h2
    cases h
    obtain⟨a1,a2⟩:=wr0 l off _ h1 x
    obtain⟨b1,b2⟩:=wb0 l1 ti.size _ h2 (f1 x)
    simp only[E4,ha,if_true,D2]
    rw[if_pos (by simp only at a2;omega),a1,b1]
    simp only[enc]
   ·cases h
  ·cases h
 ·rename_i ha
  simp only[E4,ha]
  exact wC0 l off q h x
def tXld(T:Tab)(Γ:List Sp)(t:TypeId)(c i:AV)(off:Nat):Option (TO Γ):=match T t with
 | some ti=>match shp Γ c with
  | some (.sl l)=>match M1 Γ c (.sl l)with
   | some fc=>match shp Γ i with
    | some (.int k)=>match M1 Γ i (.int k)with
     | some fi=>match ldL ti l off with
      | some ⟨s,f⟩=>some ⟨s,fun e=>((fc e)[(fi e).toNat]?).map f⟩
      | none=>none
     | none=>none
    | _=>none
   | none=>none
  | _=>none
 | none=>none
theorem wn0{T:Tab}{Φ:H8}{Γ:List Sp}{t el:TypeId}{z:Nat}{c i:AV}{off:Nat}{r:TO Γ}(h:tXld T Γ t c i off=some r):r.Ok T Φ (.xld t el z c i off):=by
 intro e v hv
 unfold tXld at h
 split at h
 ·rename_i ti ht
  split at h
  ·split at h
   ·rename_i fc hfc
    split at h
    ·split at h
     ·rename_i fi hfi
      split at h
      ·rename_i s f hf
       cases h
       simp only at hv
       have hst:∀ c,(dE0 el z c).objs 0=some (.row el z (rowsOf c)):=fun c=>by simp[dE0,c9.objs_set]
       have hr:∀ es,rowsOf (.rs es)=es:=fun _=>rfl
       simp only[j5,o9 _ _ _ hfc e,o9 _ _ _ hfi e,enc,V1,hst,hr,Y9,List.getElem?_map,ht]
       cases hx:(fc e)[(fi e).toNat]? with
       | none=>rw[hx]at hv;cases hv
       | some x =>
        rw[hx]at hv
        cases hv
        simp only[Option.map_some]
        exact ldL_ok hf x
      ·cases h
     ·cases h
    ·cases h
   ·cases h
  ·cases h
 ·cases h
def SpL.ups:(l:SpL)->(l':SpL)->Option (l.T->l'.T->l.T)
 | _,.nil=>some fun x _=>x
 | .one s,.one s'=>match h:s'.eqb s with
  | true=>some fun _ y=>mT0 h y
  | false=>none
 | .cons s _,.one s'=>match h:s'.eqb s with
  | true=>some fun x y=>(mT0 h y,x.2)
  | false=>none
 | .cons s l,.cons s' l'=>match h:s'.eqb s with
  | true=>match l.ups l' with
   | some f=>some fun x y=>(mT0 h y.1,f x.2 y.2)
   | none=>none
  | false=>none
 | _,_=>none
theorem vy0:∀ (l l':SpL) (f:l.T->l'.T->l.T),l.ups l'=some f->∀ x y,y3 l (f x y)=y3 l' y++(y3 l x).drop l'.len/\l'.len<=l.len
 | l,.nil,f,h=>by
  cases l<;>(simp only[SpL.ups]at h;cases h;exact fun x y=>⟨by simp[y3,SpL.len],Nat.zero_le _⟩)
 | .nil,.one s',f,h=>by simp[SpL.ups]at h
 | .nil,.cons s' l',f,h=>by simp[SpL.ups]at h
 | .one s,.one s',f,h=>by
  unfold SpL.ups at h
  split at h
  ·rename_i hb;cases h
   exact fun x y=>⟨by simp[y3,bq0,SpL.len],Nat.le_refl _⟩
  ·cases h
 | .one s,.cons s' l',f,h=>by simp[SpL.ups]at h
 | .cons s l,.one s',f,h=>by
  unfold SpL.ups at h
  split at h
  ·rename_i hb;cases h
   exact fun x y=>⟨by simp[y3,bq0,SpL.len],by simp[SpL.len]⟩
  ·cases h
 | .cons s l,.cons s' l',f,h=>by
  unfold SpL.ups at h
  split at h
  ·rename_i hb
   split at h
   ·rename_i f' hf
    cases h
    intro x y
    obtain⟨h1,h2⟩:=vy0 l l' f' hf x.2 y.2
    exact⟨by simp only[y3,bq0,SpL.len,List.drop_succ_cons,h1,List.cons_append],by simp[SpL.len];exact h2⟩
   ·cases h
  ·cases h
def SpL.upAt:(l:SpL)->Nat->(l':SpL)->Option (l.T->l'.T->l.T)
 | l,0,l'=>l.ups l'
 | .cons _ l,n+1,l'=>match l.upAt n l' with
  | some f=>some fun x y=>(x.1,f x.2 y)
  | none=>none
 | _,_+1,_=>none
theorem sd0:∀ (l:SpL) (n:Nat) (l':SpL) (f:l.T->l'.T->l.T),l.upAt n l'=some f->∀ x y,y3 l (f x y)=N6 (y3 l x) n (y3 l' y)/\n+l'.len<=l.len
 | l,0,l',f,h=>by
  intro x y
  have h':l.ups l'=some f:=by cases l<;>simpa only[SpL.upAt]using h
  obtain⟨h1,h2⟩:=vy0 l l' f h' x y
  exact⟨by simp[N6,h1,D2],by simpa using h2⟩
 | .nil,n+1,l',f,h=>by simp[SpL.upAt]at h
 | .one s,n+1,l',f,h=>by simp[SpL.upAt]at h
 | .cons s l,n+1,l',f,h=>by
  simp only[SpL.upAt]at h
  split at h
  ·rename_i f' hf
   cases h
   intro x y
   obtain⟨h1,h2⟩:=sd0 l n l' f' hf x.2 y
   refine⟨?_,by simp[SpL.len];omega⟩
   simp only[y3,N6,List.take_succ_cons,List.cons_append]
   have e:n+1+(y3 l' y).length=(n+(y3 l' y).length)+1:=by omega
   rw[e,List.drop_succ_cons,h1,N6]
  ·cases h
def celS:(s:Sp)->Option ((l:SpL)×(s.T->l.T))
 | .agg l=>match l.cells with
  | true=>some ⟨l,fun x=>x⟩
  | false=>none
 | s=>match s.cell with
  | true=>some ⟨.one s,fun x=>x⟩
  | false=>none
theorem vK0{s:Sp}{q:(l:SpL)×(s.T->l.T)}(h:celS s=some q)(x:s.T):(enc s x).cells=some (y3 q.1 (q.2 x))/\(y3 q.1 (q.2 x)).all AV.one=true:=by
 cases s<;>simp only[celS,Sp.cell]at h<;>first
  | (cases h;done)
  | (cases h;exact⟨rfl,rfl⟩)
  | (split at h<;>first | (cases h;done) | (rename_i hb;cases h;exact⟨rfl,cells_one hb x⟩))
def ot0{α β:Type}(xs:List α)(i:Nat)(f:α->β->α)(y:β):Option (List α):=match xs[i]? with
 | some x=>some (xs.set i (f x y))
 | none=>none
def tXst(T:Tab)(Γ:List Sp)(t:TypeId)(c i:AV)(off:Nat)(v:AV):Option (TO Γ):=match T t with
 | some ti=>match shp Γ c with
  | some (.sl l)=>match M1 Γ c (.sl l)with
   | some fc=>match shp Γ i with
    | some (.int k)=>match M1 Γ i (.int k)with
     | some fi=>match shp Γ v with
      | some s=>match M1 Γ v s with
       | some fv=>match celS s with
        | some ⟨l',g⟩=>match l.upAt off l' with
         | some f=>match Nat.beq l'.len ti.size with
          | true=>some ⟨.sl l,fun e=>ot0 (fc e) (fi e).toNat f (g (fv e))⟩
          | false=>none
         | none=>none
        | none=>none
       | none=>none
      | none=>none
     | none=>none
    | _=>none
   | none=>none
  | _=>none
 | none=>none
theorem xi0{T:Tab}{Φ:H8}{Γ:List Sp}{t el:TypeId}{z:Nat}{c i:AV}{off:Nat}{u:AV}{r:TO Γ}(h:tXst T Γ t c i off u=some r):r.Ok T Φ (.xst t el z c i off u):=by
 intro e v hv
 unfold tXst at h
 split at h
 ·rename_i ti ht
  split at h
  ·rename_i l _
   split at h
   ·rename_i fc hfc
    split at h
    ·split at h
     ·rename_i fi hfi
      split at h
      ·rename_i s _
       split at h
       ·rename_i fv hfv
        split at h
        ·rename_i l' g hg
         split at h
         ·rename_i f hf
          split at h
          ·rename_i hb
           have hb:=Nat.eq_of_beq_eq_true hb
           cases h
           simp only[ot0]at hv
           have hst:∀ c,(dE0 el z c).objs 0=some (.row el z (rowsOf c)):=fun c=>by simp[dE0,c9.objs_set]
           have hr:∀ es,rowsOf (.rs es)=es:=fun _=>rfl
           have hc:c.sub (thE Γ e)=.rs ((fc e).map (y3 l)):=o9 _ _ _ hfc e
           obtain⟨c1,c2⟩:=vK0 hg (fv e)
           simp only[j5,hc,o9 _ _ _ hfi e,o9 _ _ _ hfv e,V4,enc,Y9,c1,ht,hst,hr,List.getElem?_map]
           cases hx:(fc e)[(fi e).toNat]? with
           | none=>rw[hx]at hv;cases hv
           | some x =>
            rw[hx]at hv
            cases hv
            obtain⟨u1,u2⟩:=sd0 l off l' f hf x (g (fv e))
            simp only[Option.map_some]
            rw[if_pos ⟨by rw[D2,hb],by rw[D2,D2];exact u2,c2⟩]
            simp only[c9.objs_set,if_true,List.length_set,List.length_map,Nat.beq_refl]
            rw[<- u1,List.map_set]
          ·cases h
         ·cases h
        ·cases h
       ·cases h
      ·cases h
     ·cases h
    ·cases h
   ·cases h
  ·cases h
 ·cases h
def zI:(n:Nat)->Option ((l:SpL)×l.T)
 | 0=>none
 | 1=>some ⟨.one (.int .i64),(0:Int)⟩
 | n+2=>match zI (n+1)with
  | some ⟨l,z⟩=>some ⟨.cons (.int .i64) l,((0:Int),z)⟩
  | none=>none
def zerO{α:Type}(bytes:Nat)(z:α)(n:Int):Option (List α):=bif decide (IntKind.i64.wrap n=n)&&(decide (0<n)&&(decide ((2*n.toNat+1000)*bytes<=2^48)&&decide (n.toNat<=2^62)))then some (List.replicate n.toNat z)else none
def sz0:List AV->List AV->Bool
 | [],[]=>true
 | .sc (.int .i64 a)::as,.sc (.int .i64 b)::bs=>decide (a=b)&&sz0 as bs
 | _,_=>false
theorem nG0:∀ {as bs:List AV},sz0 as bs=true->as=bs
 | [],[],_=>rfl
 | [],b::bs,h=>by simp[sz0]at h
 | a::as,bs,h=>by
  unfold sz0 at h
  split at h
  ·rename_i h2;cases h2
  ·rename_i a' as' b' bs' h1
   cases h1
   simp only[Bool.and_eq_true,decide_eq_true_eq]at h
   rw[h.1,nG0 h.2]
  ·cases h
def tZer(T:Tab)(Γ:List Sp)(sT:TypeId)(x:AV):Option (TO Γ):=match T sT with
 | some { und:=.slice el,.. }=>match T el with
  | some ei=>match zI ei.size with
   | some ⟨l,z⟩=>match sz0 ei.zeroCells (y3 l z)&&Nat.blt 0 ei.size with
    | true=>match shp Γ x with
     | some (.int k)=>match M1 Γ x (.int k)with
      | some fx=>some ⟨.sl l,fun e=>zerO ei.bytes z (fx e)⟩
      | none=>none
     | _=>none
    | false=>none
   | none=>none
  | none=>none
 | _=>none
theorem xH0{T:Tab}{Φ:H8}{Γ:List Sp}{sT:TypeId}{x:AV}{r:TO Γ}(h:tZer T Γ sT x=some r):r.Ok T Φ (.zer sT x):=by
 intro e v hv
 unfold tZer at h
 split at h
 ·rename_i ht
  split at h
  ·rename_i ei hei
   split at h
   ·rename_i l z hz
    split at h
    ·rename_i hb
     simp only[Bool.and_eq_true,Nat.blt_eq]at hb
     split at h
     ·split at h
      ·rename_i fx hfx
       cases h
       simp only[zerO]at hv
       cases hc:(decide (IntKind.i64.wrap (fx e)=fx e)&&(decide (0<fx e)&&(decide ((2*(fx e).toNat+1000)*ei.bytes<=2^48)&&decide ((fx e).toNat<=2^62))))with
       | false=>rw[hc]at hv;cases hv
       | true =>
        rw[hc]at hv
        simp only[Bool.and_eq_true,decide_eq_true_eq]at hc
        cases hv
        simp only[j5,xp0,ht,hei,o9 _ _ _ hfx e,enc]
        rw[if_pos ⟨hc.1,hc.2.1,hc.2.2.1,hc.2.2.2,hb.2⟩,nG0 hb.1]
        simp
      ·cases h
     ·cases h
    ·cases h
   ·cases h
  ·cases h
 ·cases h
def tIss(Γ:List Sp)(x:AV):Option (TO Γ):=match M1 Γ x .str with
 | some _=>some ⟨.tt,fun _=>some ()⟩
 | none=>none
theorem wN0{T:Tab}{Φ:H8}{Γ:List Sp}{x:AV}{r:TO Γ}(h:tIss Γ x=some r):r.Ok T Φ (.iss x):=by
 intro e v hv
 unfold tIss at h
 split at h
 ·rename_i f hf
  cases h
  simp only[j5,o9 _ _ _ hf e,enc]
 ·cases h
def xv0(Γ:List Sp)(x p:AV):Option (TO Γ):=match M1 Γ x .str with
 | some fx=>match M1 Γ p (.int .i64)with
  | some fp=>some ⟨.bool,fun e=>some (decide ((fp e).toNat<(fx e).size))⟩
  | none=>none
 | none=>none
theorem sI0{T:Tab}{Φ:H8}{Γ:List Sp}{x p:AV}{r:TO Γ}(h:xv0 Γ x p=some r):r.Ok T Φ (.more x p):=by
 intro e v hv
 unfold xv0 at h
 split at h
 ·rename_i fx hfx
  split at h
  ·rename_i fp hfp
   cases h;cases hv
   simp only[j5,o9 _ _ _ hfx e,o9 _ _ _ hfp e,enc]
  ·cases h
 ·cases h
def ri0(b:ByteArray)(n:Int):Option (Int×Int×Int):=bif decide (n.toNat<b.size)then some ((n.toNat:Int),((Utf8.decode b n.toNat).1:Int),((n.toNat+(Utf8.decode b n.toNat).2:Nat):Int))else none
def xj0(Γ:List Sp)(x p:AV):Option (TO Γ):=match M1 Γ x .str with
 | some fx=>match M1 Γ p (.int .i64)with
  | some fp=>some ⟨.tup (.cons (.int .i64) (.cons (.int .i32) (.one (.int .i64)))),fun e=>ri0 (fx e) (fp e)⟩
  | none=>none
 | none=>none
theorem td0{T:Tab}{Φ:H8}{Γ:List Sp}{x p:AV}{r:TO Γ}(h:xj0 Γ x p=some r):r.Ok T Φ (.sdec x p):=by
 intro e v hv
 unfold xj0 at h
 split at h
 ·rename_i fx hfx
  split at h
  ·rename_i fp hfp
   cases h
   simp only[ri0]at hv
   cases hc:decide ((fp e).toNat<(fx e).size)with
   | false=>rw[hc]at hv;cases hv
   | true =>
    rw[hc]at hv
    cases hv
    simp only[j5,o9 _ _ _ hfx e,o9 _ _ _ hfp e,enc,y3,hc]
  ·cases h
 ·cases h
def shD(T:Tab):Nat->TypeId->Option Sp
 | 0,_=>none
 | k+1,t=>match T t with
  | some { und:=.int k,.. }=>some (.int k)
  | some { und:=.bool,.. }=>some .bool
  | some { und:=.string,.. }=>some .str
  | some { und:=.slice e,.. }=>match shD T k e with
   | some s=>some (.sl (.one s))
   | none=>none
  | _=>none
def owS(T:Tab)(cols:bn0)(j:Nat)(s:Sp):Option ((s':Sp)×(s.T->s'.T)):=match U9 cols j with
 | some c=>match shD T 4 c.2.1 with
  | some s'=>some ⟨.sl (.one s'),fun _=>[]⟩
  | none=>none
 | none=>some ⟨s,fun x=>x⟩
theorem uJ0{T:Tab}{cols:bn0}{j:Nat}{s:Sp}{r:(s':Sp)×(s.T->s'.T)}(h:owS T cols j s=some r)(x:s.T):aQ0 cols j (enc s x)=enc r.1 (r.2 x):=by
 unfold owS at h
 unfold aQ0
 split at h
 ·rename_i c hc
  split at h
  ·cases h;rw[hc];rfl
  ·cases h
 ·rename_i hc
  cases h;rw[hc]
def owL(T:Tab)(cols:bn0):Nat->(l:SpL)->Option ((l':SpL)×(l.T->l'.T))
 | _,.nil=>some ⟨.nil,fun x=>x⟩
 | j,.one s=>match owS T cols j s with
  | some ⟨s',f⟩=>some ⟨.one s',f⟩
  | none=>none
 | j,.cons s l=>match owS T cols j s with
  | some ⟨s',f⟩=>match owL T cols (j+1) l with
   | some ⟨l',g⟩=>some ⟨.cons s' l',fun x=>(f x.1,g x.2)⟩
   | none=>none
  | none=>none
theorem uq0{T:Tab}{cols:bn0}:∀ (j:Nat) (l:SpL) (r:(l':SpL)×(l.T->l'.T)),owL T cols j l=some r->∀ x,K3 cols j (y3 l x)=y3 r.1 (r.2 x)
 | _,.nil,r,h,x=>by simp only[owL]at h;cases h;rfl
 | j,.one s,r,h,x=>by
  simp only[owL]at h
  split at h
  ·rename_i s' f hf
   cases h
   simp only[y3,K3,uJ0 hf x]
  ·cases h
 | j,.cons s l,r,h,x=>by
  simp only[owL]at h
  split at h
  ·rename_i s' f hf
   split at h
   ·rename_i l' g hg
    cases h
    simp only[y3,K3,uJ0 hf x.1,uq0 (j+1) l _ hg x.2]
   ·cases h
  ·cases h
def nlAt(l:SpL)(j:Nat):Bool:=match l.at j with
 | some ⟨.nl,_⟩=>true
 | _=>false
theorem xy0{l:SpL}{j:Nat}(h:nlAt l j=true)(x:l.T):(y3 l x)[j]?=some (.sc (.slice none 0 0)):=by
 unfold nlAt at h
 split at h
 ·rename_i f hf
  exact wC0 l j _ hf x
 ·cases h
def ownO{α β:Type}(f:α->β)(xs:List α):Option (List β):=bif decide (16*xs.length<=P4)then some (xs.map f)else none
def xr0(T:Tab)(Γ:List Sp)(cols:bn0)(x:AV):Option (TO Γ):=match shp Γ x with
 | some (.sl l)=>match M1 Γ x (.sl l),owL T cols 0 l,cols.all (fun c=>Nat.blt c.1 16&&nlAt l c.1)with
  | some fx,some ⟨l',f⟩,true=>some ⟨.sl l',fun e=>ownO f (fx e)⟩
  | _,_,_=>none
 | _=>none
theorem tz0{T:Tab}{Φ:H8}{Γ:List Sp}{cols:bn0}{x:AV}{r:TO Γ}(h:xr0 T Γ cols x=some r):r.Ok T Φ (.ownr cols x):=by
 intro e v hv
 unfold xr0 at h
 split at h
 ·rename_i l hl
  split at h
  ·rename_i fx l' f hfx hf hc
   cases h
   simp only[ownO]at hv
   have hcd:decide (16*(fx e).length<=P4)=true:=by
    cases hd:decide (16*(fx e).length<=P4)with
    | true=>rfl
    | false=>rw[hd]at hv;cases hv
   rw[hcd]at hv
   cases hv
   have hown:xD0 cols ((fx e).map (y3 l))=true:=by
    simp only[xD0,Bool.and_eq_true,List.length_map,List.all_eq_true]
    refine⟨⟨hcd,fun c hcm=>?_⟩,fun r hr c hcm=>?_⟩
    ·have:=List.all_eq_true.1 hc c hcm
     simp only[Bool.and_eq_true]at this
     exact this.1
    ·obtain⟨y,_,rfl⟩:=List.mem_map.1 hr
     have:=List.all_eq_true.1 hc c hcm
     simp only[Bool.and_eq_true]at this
     rw[xy0 this.2 y]
     rfl
   simp only[j5,o9 _ _ _ hfx e,enc,hown,List.map_map]
   congr 2
   refine List.map_congr_left fun y _=>?_
   exact uq0 0 l _ hf y
  ·cases h
 ·cases h
def inO{α:Type}(xs:List α)(i:Int):Option Unit:=(xs[i.toNat]?).map fun _=>()
def tXin(Γ:List Sp)(c i:AV)(off:Nat):Option (TO Γ):=match shp Γ c with
 | some (.sl l)=>match M1 Γ c (.sl l),shp Γ i with
  | some fc,some (.int k)=>match M1 Γ i (.int k),Nat.blt off l.len with
   | some fi,true=>some ⟨.tt,fun e=>inO (fc e) (fi e)⟩
   | _,_=>none
  | _,_=>none
 | _=>none
theorem wA0{T:Tab}{Φ:H8}{Γ:List Sp}{c i:AV}{off:Nat}{r:TO Γ}(h:tXin Γ c i off=some r):r.Ok T Φ (.xin c i off):=by
 intro e v hv
 unfold tXin at h
 split at h
 ·rename_i l hl
  split at h
  ·rename_i fc k hfc _
   split at h
   ·rename_i fi hfi hb
    cases h
    simp only[inO]at hv
    cases hx:(fc e)[(fi e).toNat]? with
    | none=>rw[hx]at hv;cases hv
    | some y =>
     have hb':off<l.len:=by simpa[Nat.blt_eq]using hb
     rw[hx]at hv
     cases hv
     simp only[j5,o9 _ _ _ hfc e,o9 _ _ _ hfi e,enc,rowsOf,Y9,List.getElem?_map,hx,Option.map_some,D2,hb]
   ·cases h
  ·cases h
 ·cases h
def castL{a b:SpL}(h:a.eqb b=true)(x:a.T):b.T:=(SpL.eqb_eq a b h)▸x
theorem qK0{a b:SpL}(h:a.eqb b=true)(x:a.T):y3 b (castL h x)=y3 a x:=by
 have:=SpL.eqb_eq a b h
 subst this
 rfl
def chAt(l:SpL)(m i:Nat):Option ((l':SpL)×(l.T->l'.T)):=match l.dr (i*m)with
 | some ⟨l1,f1⟩=>match l1.tk m with
  | some ⟨l2,f2⟩=>some ⟨l2,fun x=>f2 (f1 x)⟩
  | none=>none
 | none=>none
theorem ww0{l:SpL}{m i:Nat}{q:(l':SpL)×(l.T->l'.T)}(h:chAt l m i=some q)(x:l.T):((y3 l x).drop (i*m)).take m=y3 q.1 (q.2 x)/\i*m+m<=(y3 l x).length:=by
 unfold chAt at h
 split at h
 ·rename_i l1 f1 h1
  split at h
  ·rename_i l2 f2 h2
   cases h
   obtain⟨a1,a2⟩:=wr0 _ _ _ h1 x
   obtain⟨b1,b2⟩:=wb0 _ _ _ h2 (f1 x)
   simp only at a1 a2
   rw[a1,D2]
   exact⟨b1,by omega⟩
  ·cases h
 ·cases h
def chS(m:Nat)(s:SpL)(l:SpL):Nat->Nat->Option (l.T->List s.T)
 | 0,_=>some fun _=>[]
 | k+1,i=>match chAt l m i with
  | some ⟨l2,f⟩=>match h:l2.eqb s with
   | true=>match chS m s l k (i+1)with
    | some g=>some fun x=>castL h (f x)::g x
    | none=>none
   | false=>none
  | none=>none
theorem uC0{m:Nat}{s l:SpL}:∀ (k i:Nat) (g:l.T->List s.T),chS m s l k i=some g->∀ x,(g x).length=k/\∀ j y,(g x)[j]?=some y->((y3 l x).drop ((i+j)*m)).take m=y3 s y/\(i+j)*m+m<=(y3 l x).length
 | 0,i,g,h,x=>by
  simp only[chS]at h;cases h
  exact⟨rfl,fun j y hy=>by simp at hy⟩
 | k+1,i,g,h,x=>by
  unfold chS at h
  split at h
  ·rename_i l2 f h2
   split at h
   ·rename_i hb
    split at h
    ·rename_i g' hg
     cases h
     obtain⟨w1,w2⟩:=uC0 k (i+1) g' hg x
     refine⟨by simp[w1],fun j y hy=>?_⟩
     cases j with
     | zero =>
      simp only[List.getElem?_cons_zero,Option.some.injEq]at hy
      subst hy
      rw[qK0]
      exact ww0 h2 x
     | succ j =>
      rw[List.getElem?_cons_succ]at hy
      have:=w2 j y hy
      rw[show i+1+j=i+(j+1)by omega]at this
      exact this
    ·cases h
   ·cases h
  ·cases h
def go0(T:Tab)(Γ:List Sp)(t:TypeId)(x i:AV):Option (TO Γ):=match shp Γ i with
 | some (.int k)=>match M1 Γ i (.int k)with
  | some fi=>match T t with
   | some { und:=.array len el,.. }=>match T el with
    | some ei=>match shp Γ x with
     | some (.agg l)=>match M1 Γ x (.agg l)with
      | some fx=>match chAt l ei.size 0 with
       | some ⟨s,_⟩=>match chS ei.size s l len 0 with
        | some g=>match ei.isAgg with
         | true=>some ⟨.agg s,fun e=>nth (g (fx e)) (fi e)⟩
         | false=>none
        | none=>none
       | none=>none
      | none=>none
     | _=>none
    | none=>none
   | _=>none
  | none=>none
 | _=>none
theorem pd0{T:Tab}{Φ:H8}{Γ:List Sp}{t:TypeId}{x i:AV}{r:TO Γ}(h:go0 T Γ t x i=some r):r.Ok T Φ (.index t x i):=by
 intro e v hv
 unfold go0 at h
 split at h
 ·split at h
  ·rename_i fi hfi
   split at h
   ·rename_i len el _ _ _ _ ht
    split at h
    ·rename_i ei he
     split at h
     ·rename_i l hl
      split at h
      ·rename_i fx hfx
       split at h
       ·rename_i s f0 hc0
        split at h
        ·rename_i g hg
         split at h
         ·rename_i hagg
          cases h
          simp only[nth]at hv
          by_cases h0:0<=fi e
          ·simp only[h0,decide_true,cond_true]at hv
           obtain⟨w1,w2⟩:=uC0 _ _ _ hg (fx e)
           have hlt:=(List.getElem?_eq_some_iff.1 hv).1
           have h1:fi e<(len:Int):=by
            rw[w1]at hlt
            have key:∀ z:Int,0<=z->z.toNat<len->z<(len:Int):=fun z a b=>by omega
            exact key _ h0 hlt
           have:=w2 _ _ hv
           rw[Nat.zero_add]at this
           simp only[j5,o9 _ _ _ hfx e,o9 _ _ _ hfi e,enc,cb0,ht,he,h0,h1,and_self,if_true,jX0,E4,hagg]
           rw[if_pos this.2,this.1]
          ·simp[h0]at hv
         ·cases h
        ·cases h
       ·cases h
      ·cases h
     ·cases h
    ·cases h
   ·cases h
  ·cases h
 ·cases h
end Go.Ab
namespace Go.Ab
open Go
variable [B0]
def orElse'{α:Type}:Option α->Option α->Option α
 | some a,_=>some a
 | none,b=>b
def tOp(T:Tab)(Ψ:List TF)(Γ:List Sp):RO->Option (TO Γ)
 | .bin o t x y=>tBin T Γ o t x y
 | .un o x=>tUn Γ o x
 | .conv s d x=>vJ0 T Γ s d x
 | .pick c a b=>vT0 Γ c a b
 | .idx t x i=>tIdx T Γ t x i
 | .index t x i=>orElse' (iC0 T Γ t x i) (go0 T Γ t x i)
 | .slc t x lo hi=>tSlc T Γ t x lo hi
 | .len t x=>tLen T Γ t x
 | .mx l=>tMx Γ l
 | .mn l=>tMn Γ l
 | .cat sT xT x y=>tCat T Γ sT xT x y
 | .call f args fl=>qT0 Γ f args fl Ψ
 | .rows l=>vH0 Γ l
 | .look t c ix ok=>wF0 T Γ t c ix ok
 | .lookr t c ix ok=>rd0 T Γ t c ix ok
 | .mput t c ix v=>wD0 T Γ t c ix v
 | .mlen t c=>wS0 T Γ t c
 | .nop=>some ⟨.tt,fun _=>some ()⟩
 | .inb t c i=>tInb T Γ t c i
 | .xld t _ _ c i off=>tXld T Γ t c i off
 | .xst t _ _ c i off v=>tXst T Γ t c i off v
 | .isp x=>tIsp Γ x
 | .opn n x=>tOpn Γ n x
 | .zer t x=>tZer T Γ t x
 | .gl t g=>tGl T Γ t g
 | .iss x=>tIss Γ x
 | .more x p=>xv0 Γ x p
 | .sdec x p=>xj0 Γ x p
 | .ownr cols x=>xr0 T Γ cols x
 | .xin c i off=>tXin Γ c i off
theorem tOp_ok{T:Tab}{Φ:H8}{Ψ:List TF}(hΨ:∀ t∈Ψ,t.Ok Φ){Γ:List Sp}{o:RO}{r:TO Γ}(h:tOp T Ψ Γ o=some r):r.Ok T Φ o:=by
 cases o with
 | bin o t x y=>exact xz0 h
 | un o x=>exact tUn_ok h
 | conv s d x=>exact sV0 h
 | pick c a b=>exact tL0 h
 | idx t x i=>exact wQ0 h
 | index t x i =>
  cases h1:iC0 T Γ t x i with
  | some a=>rw[show tOp T Ψ Γ (.index t x i)=orElse' (iC0 T Γ t x i) (go0 T Γ t x i)from rfl,h1]at h;cases h;exact pT0 h1
  | none=>rw[show tOp T Ψ Γ (.index t x i)=orElse' (iC0 T Γ t x i) (go0 T Γ t x i)from rfl,h1]at h;exact pd0 h
 | slc t x lo hi=>exact wR0 h
 | len t x=>exact wm0 h
 | mx l=>exact tMx_ok h
 | mn l=>exact tMn_ok h
 | cat sT xT x y=>exact xd0 h
 | call f args fl=>exact nn0 Ψ hΨ h
 | rows l=>exact tr0 h
 | look t c ix ok=>exact ta0 h
 | lookr t c ix ok=>exact qA0 h
 | mput t c ix v=>exact sX0 h
 | mlen t c=>exact tD0 h
 | nop=>cases h;exact fun e v _=>rfl
 | inb t c i=>exact wj0 h
 | xld t _ _ c i off=>exact wn0 h
 | xst t _ _ c i off v=>exact xi0 h
 | isp x=>exact xf0 h
 | opn n x=>exact wc0 h
 | zer t x=>exact xH0 h
 | gl t g=>exact tGl_ok h
 | iss x=>exact wN0 h
 | more x p=>exact sI0 h
 | sdec x p=>exact td0 h
 | ownr cols x=>exact tz0 h
 | xin c i off=>exact wA0 h
def b8{α β:Type}:Option α->(α->Option β)->Option β
 | some a,f=>f a
 | none,_=>none
omit [B0] in
theorem to0{α β:Type}{x:Option α}{f:α->Option β}{v:β}(h:b8 x f=some v):∃ a,x=some a/\f a=some v:=by
 cases x with
 | none=>cases h
 | some a=>exact⟨a,rfl,h⟩
def iter{α β:Type}(F:(α->Option β)->α->Option β):Nat->α->Option β
 | 0,_=>none
 | n+1,x=>F (iter F n) x
noncomputable def many:Nat:=Classical.choose (⟨2^100,Nat.le_refl _⟩:∃ n:Nat,2^100<=n)
noncomputable def rounds{α β:Type}(F:(α->Option β)->α->Option β)(x:α):Option β:=iter F many x
abbrev LCtx:=List (Nat×SpL)
@[reducible] def Kont (R:Type):LCtx->Type
 | []=>Unit
 | (_,s)::C=>(s.T->Option R)×Kont R C
def ky0(R:Type):(C:LCtx)->Nat->Option ((s:SpL)×(Kont R C->s.T->Option R))
 | [],_=>none
 | (l,s)::C,l'=>match Nat.beq l l' with
  | true=>some ⟨s,fun κ=>κ.1⟩
  | false=>match ky0 R C l' with
   | some ⟨s',g⟩=>some ⟨s',fun κ=>g κ.2⟩
   | none=>none
def cr0:(l:SpL)->(Γ:List Sp)->(Γ':List Sp)×(l.T->Env Γ->Env Γ')
 | .nil,Γ=>⟨Γ,fun _ e=>e⟩
 | .one s,Γ=>⟨s::Γ,fun x e=>(x,e)⟩
 | .cons s l,Γ=>match cr0 l (s::Γ)with
  | ⟨Γ',p⟩=>⟨Γ',fun x e=>p x.2 (x.1,e)⟩
theorem nK0:∀ (l:SpL) (Γ:List Sp) (x:l.T) (e:Env Γ),fu0 (cr0 l Γ).1 ((cr0 l Γ).2 x e)=(y3 l x).reverse++fu0 Γ e
 | .nil,_,_,_=>rfl
 | .one _,_,_,_=>rfl
 | .cons s l,Γ,x,e=>by
  have:=nK0 l (s::Γ) x.2 (x.1,e)
  simp only[cr0,this,y3,List.reverse_cons,List.append_assoc,fu0,List.singleton_append]
noncomputable def den(T:Tab)(Ψ:List TF)(H:Nat->Option SpL)(cod:Sp):RT->(Γ:List Sp)->(C:LCtx)->Env Γ->Kont cod.T C->Option cod.T
 | .stuck,_,_=>fun _ _=>none
 | .ret c l,Γ,C=>match l.all (isSl Γ)with
  | true=>match M1 Γ c cod with
   | some f=>fun e _=>some (f e)
   | none=>fun _ _=>none
  | false=>fun _ _=>none
 | .op o fr pat r,Γ,C=>match Nat.beq fr Γ.length with
  | true=>match tOp T Ψ Γ o with
   | some ⟨s,g⟩=>match bw0 pat s Γ with
    | some ⟨Γ',p⟩=>fun e κ=>b8 (g e) fun v=>den T Ψ H cod r Γ' C (p v e) κ
    | none=>fun _ _=>none
   | none=>fun _ _=>none
  | false=>fun _ _=>none
 | .test i a b,Γ,C=>match xt0 Γ i .bool with
  | some f=>fun e κ=>bif f e then den T Ψ H cod a Γ C e κ else den T Ψ H cod b Γ C e κ
  | none=>fun _ _=>none
 | .loop l k inits body,Γ,C=>match H l with
  | some ls=>match Nat.beq l Γ.length&&(Nat.beq ls.len k&&body.bnd (l+k+1))with
   | true=>match bG0 Γ inits ls with
    | some fi=>fun e κ=>rounds (fun rec x=>den T Ψ H cod body (.bool::(cr0 ls Γ).1) ((l,ls)::C) (false,(cr0 ls Γ).2 x e) (rec,κ)) (fi e)
    | none=>fun _ _=>none
   | false=>fun _ _=>none
  | none=>fun _ _=>none
 | .again l vals,Γ,C=>match ky0 cod.T C l with
  | some ⟨s,g⟩=>match bG0 Γ vals s with
   | some f=>fun e κ=>g κ (f e)
   | none=>fun _ _=>none
  | none=>fun _ _=>none
theorem tv0{Γ:List Sp}{l:List Nat}(h:l.all (isSl Γ)=true)(e:Env Γ):∀ j∈l,∃ es,thE Γ e j=.rs es:=fun j hj=>ql0 (List.all_eq_true.1 h j hj) e
theorem iD0{T:Tab}{Φ:H8}{Ψ:List TF}(hΨ:∀ t∈Ψ,t.Ok Φ){H:Nat->Option SpL}{cod:Sp}{v:cod.T}:∀ (r:RT) (Γ:List Sp) (C:LCtx) (e:Env Γ) (κ:Kont cod.T C) (A:Nat->List AV->Prop),
  (∀ l s g,ky0 cod.T C l=some ⟨s,g⟩->∀ x,g κ x=some v->A l (y3 s x))->den T Ψ H cod r Γ C e κ=some v->X7 T Φ (fun c=>c=enc cod v) r Γ.length (fu0 Γ e) A
 | .stuck,Γ,C,e,κ,A,hκ,h=>by simp[den]at h
 | .ret c l,Γ,C,e,κ,A,hκ,h=>by
  simp only[den]at h
  cases hl:l.all (isSl Γ)with
  | false=>simp only[hl]at h;cases h
  | true =>
   simp only[hl]at h
   cases hf:M1 Γ c cod with
   | none=>simp only[hf]at h;cases h
   | some f =>
    simp only[hf]at h
    cases h
    exact X7.retL (fun j hj=>tv0 hl e j hj) (o9 _ _ _ hf e)
 | .op o fr pat r,Γ,C,e,κ,A,hκ,h=>by
  simp only[den]at h
  cases hn:Nat.beq fr Γ.length with
  | false=>simp only[hn]at h;cases h
  | true =>
   simp only[hn]at h
   have hn:=Nat.eq_of_beq_eq_true hn
   subst hn
   cases ho:tOp T Ψ Γ o with
   | none=>simp only[ho]at h;cases h
   | some sg =>
    obtain⟨s,g⟩:=sg
    simp only[ho]at h
    cases hp:bw0 pat s Γ with
    | none=>simp only[hp]at h;cases h
    | some x =>
     obtain⟨Γ',p⟩:=x
     simp only[hp]at h
     obtain⟨w,h1,h2⟩:=to0 h
     obtain⟨vs,b1,b2,b3⟩:=gd0 _ _ _ _ hp w e
     have ih:=iD0 hΨ r Γ' C (p w e) κ A hκ h2
     have hev:=tOp_ok hΨ ho e w h1
     have hlen:Γ'.length=Γ.length+vs.length:=by
      have:=congrArg List.length b1
      simp only[E0,List.length_append]at this
      omega
     have b1':fu0 Γ' (p w e)=vs++fu0 Γ e:=b1
     rw[hlen,b1']at ih
     refine X7.opL vs ?_ b2 ih
     have:=b3 []
     simp only[List.nil_append,List.length_append,E0]at this
     rw[Nat.add_comm,this]
     exact hev
 | .test i a b,Γ,C,e,κ,A,hκ,h=>by
  simp only[den]at h
  cases hf:xt0 Γ i .bool with
  | none=>simp only[hf]at h;cases h
  | some f =>
   simp only[hf]at h
   refine X7.test (f e) (mr0 hf e) (fun ht=>?_) (fun ht=>?_)
   ·rw[ht]at h
    exact iD0 hΨ a Γ C e κ A hκ h
   ·rw[ht]at h
    exact iD0 hΨ b Γ C e κ A hκ h
 | .loop l k inits body,Γ,C,e,κ,A,hκ,h=>by
  simp only[den]at h
  cases hls:H l with
  | none=>simp only[hls]at h;cases h
  | some ls =>
   simp only[hls]at h
   cases hb:(Nat.beq l Γ.length&&(Nat.beq ls.len k&&body.bnd (l+k+1)))with
   | false=>simp only[hb]at h;cases h
   | true =>
    simp only[hb]at h
    simp only[Bool.and_eq_true,Nat.beq_eq]at hb
    obtain⟨rfl,hk,hbnd⟩:=hb
    cases hfi:bG0 Γ inits ls with
    | none=>simp only[hfi]at h;cases h
    | some fi =>
     simp only[hfi]at h
     refine X7.loop (fun n vals=>∃ x,vals=y3 ls x/\iter (fun rec x=>den T Ψ H cod body (.bool::(cr0 ls Γ).1) ((Γ.length,ls)::C) (false,(cr0 ls Γ).2 x e) (rec,κ)) n x=some v) hbnd many ?_ ?_
     ·refine⟨fi e,?_,h⟩
      have:=X1 _ _ _ hfi e
      rw[dP0]at this
      exact this
     ·rintro n vals ⟨x,rfl,hx⟩ hlen
      cases n with
      | zero=>cases hx
      | succ n =>
       have ih:=iD0 hΨ body (.bool::(cr0 ls Γ).1) ((Γ.length,ls)::C) (false,(cr0 ls Γ).2 x e) (iter (fun rec x=>den T Ψ H cod body (.bool::(cr0 ls Γ).1) ((Γ.length,ls)::C) (false,(cr0 ls Γ).2 x e) (rec,κ)) n,κ)
        (fun l'=>if l'=Γ.length then (fun vals'=>∃ m',m'<n+1/\∃ x,vals'=y3 ls x/\iter (fun rec x=>den T Ψ H cod body (.bool::(cr0 ls Γ).1) ((Γ.length,ls)::C) (false,(cr0 ls Γ).2 x e) (rec,κ)) m' x=some v)else A l')
        (fun l' s g hf y hy=>by
         simp only[ky0]at hf
         cases hbq:Nat.beq Γ.length l' with
         | true =>
          simp only[hbq]at hf
          have hbq:=Nat.eq_of_beq_eq_true hbq
          subst hbq
          cases hf
          simp only[if_true]
          exact⟨n,Nat.lt_succ_self _,y,rfl,hy⟩
         | false =>
          simp only[hbq]at hf
          have hne:l'≠Γ.length:=fun he=>by rw[he,Nat.beq_refl]at hbq;cases hbq
          cases hg:ky0 cod.T C l' with
          | none=>simp only[hg]at hf;cases hf
          | some q =>
           obtain⟨s',g'⟩:=q
           simp only[hg]at hf
           cases hf
           simp only[hne,if_false]
           exact hκ l' _ _ hg y hy) hx
       have e1:=nK0 ls Γ x e
       have e2:(Sp.bool::(cr0 ls Γ).1).length=Γ.length+k+1:=by
        have:=congrArg List.length e1
        simp only[E0,List.length_append,List.length_reverse,D2]at this
        simp only[List.length_cons];omega
       rw[e2]at ih
       have e3:fu0 (Sp.bool::(cr0 ls Γ).1) (false,(cr0 ls Γ).2 x e)=.sc (.bool false)::((y3 ls x).reverse++fu0 Γ e):=by rw[<- e1];rfl
       rw[e3]at ih
       exact ih
 | .again l vals,Γ,C,e,κ,A,hκ,h=>by
  simp only[den]at h
  cases hg:ky0 cod.T C l with
  | none=>simp only[hg]at h;cases h
  | some q =>
   obtain⟨s,g⟩:=q
   simp only[hg]at h
   cases hf:bG0 Γ vals s with
   | none=>simp only[hf]at h;cases h
   | some f =>
    simp only[hf]at h
    have:=hκ l s g hg (f e) h
    rw[<- X1 _ _ _ hf e,dP0]at this
    intro hn
    have e1:env (fu0 Γ e).reverse=thE Γ e:=by rw[aq0,E0];rfl
    intro hL
    show A l _
    rw[e1]
    exact this
noncomputable def un0(T:Tab)(Ψ:List TF)(H:Nat->Option SpL)(dom:SpL)(cod:Sp)(pargs:List AV)(r:RT):dom.T->Option cod.T:=match cy0 pargs dom []with
 | some ⟨Γ,p⟩=>fun x=>den T Ψ H cod r Γ [] (p x ()) ()
 | none=>fun _=>none
def shL:List (Nat×SpL)->Nat->Option SpL
 | [],_=>none
 | (g,s)::l,f=>match Nat.beq g f with
  | true=>some s
  | false=>shL l f
theorem xs0{P:Program}{T:Tab}(hT:C2 P T){Φ:H8}(hΦ:ha0 P Φ){F:FuncId->Option Func}(hF:∀ f fn,F f=some fn->P.funcs[f]?=some fn)(hm:P.follows .mixedOrders=true){Ψ:List TF}(hΨ:∀ t∈Ψ,t.Ok Φ)
  {H:List (Nat×Hint)} {m:Nat} {f:FuncId} {pargs:List AV} {fr:Nat} {S:Nat->Option SpL} {dom:SpL} {cod:Sp} {g:dom.T->Option cod.T} (hg:un0 T Ψ S dom cod pargs (gX0 T Φ F H m f pargs fr)=g) {x:dom.T} {v:cod.T} (h:g x=some v):F3 P ⟨f,y3 dom x,enc cod v⟩:=by
 subst hg
 unfold un0 at h
 cases hp:cy0 pargs dom []with
 | none=>simp only[hp]at h;cases h
 | some q =>
  obtain⟨Γ,p⟩:=q
  simp only[hp]at h
  obtain⟨vs,b1,b2,b3⟩:=aU0 _ _ _ _ hp x ()
  have hl:=iD0 hΨ _ Γ [] (p x ()) () (fun _ _=>False) (fun l s g hf=>by simp[ky0]at hf) h
  have b1':fu0 Γ (p x ())=vs++[]:=b1
  have e1:Y8 (thE Γ (p x ())) pargs=y3 dom x:=by
   have h3:=b3 []
   rw[List.nil_append]at h3
   unfold thE
   rw[b1',<-E0 Γ (p x ()),b1']
   exact h3
  rw[dP0]at e1
  have hfit:∀ u∈fu0 Γ (p x ()),aH0 u:=fun u hu=>by rw[b1',List.append_nil]at hu;exact b2 u hu
  rw[<- e1]
  have hl':=hl (by rw[E0])
  have h5:=hl' (fun u hu=>hfit u (by simpa using hu))
  rw[aq0,E0]at h5
  exact oQ0 hT hΦ hF hm (by have:=Fit.env (l:=(fu0 Γ (p x ())).reverse) (fun u hu=>hfit u (by simpa using hu));rw[aq0,E0]at this;exact this) h5
end Go.Ab
namespace Go.Ab
open Go
variable [B0]
theorem map_inj{α β:Type}{f:α->β}(hf:∀ x y,f x=f y->x=y):∀ {xs ys:List α},xs.map f=ys.map f->xs=ys
 | [],[],_=>rfl
 | [],y::ys,h=>by simp at h
 | x::xs,[],h=>by simp at h
 | x::xs,y::ys,h=>by
  simp only[List.map_cons,List.cons.injEq]at h
  rw[hf x y h.1,map_inj hf h.2]
mutual
theorem qw0:∀ (s:Sp) (x y:s.T),enc s x=enc s y->x=y
 | .int _,x,y,h=>by simp only[enc,AV.sc.injEq,Value.int.injEq]at h;exact h.2
 | .bool,x,y,h=>by simp only[enc,AV.sc.injEq,Value.bool.injEq]at h;exact h
 | .str,x,y,h=>by simp only[enc,AV.sc.injEq,Value.string.injEq]at h;exact h
 | .tt,x,y,_=>rfl
 | .nl,x,y,_=>rfl
 | .sl l,x,y,h=>by simp only[enc,AV.rs.injEq]at h;exact map_inj (W9 l) h
 | .agg l,x,y,h=>by simp only[enc,AV.agg.injEq]at h;exact W9 l x y h
 | .ptr l,x,y,h=>by simp only[enc,AV.rp.injEq]at h;exact W9 l x y h
 | .fmap l,x,y,h=>by simp only[enc,AV.rm.injEq,AV.rs.injEq]at h;exact map_inj (W9 l) h
 | .tup l,x,y,h=>by simp only[enc,AV.tup.injEq]at h;exact W9 l x y h
 | .fn g l,x,y,h=>by simp only[enc,AV.fn.injEq]at h;exact W9 l x y h.2.2
theorem W9:∀ (l:SpL) (x y:l.T),y3 l x=y3 l y->x=y
 | .nil,_,_,_=>rfl
 | .one s,x,y,h=>by simp only[y3,List.cons.injEq,and_true]at h;exact qw0 s x y h
 | .cons s l,x,y,h=>by
  simp only[y3,List.cons.injEq]at h
  exact Prod.ext (qw0 s _ _ h.1) (W9 l _ _ h.2)
end
mutual
def Sp.sep:Sp->Sp->Bool
 | .fn g _,.fn g' _=>!Nat.beq g g'
 | _,_=>false
def SpL.sep:SpL->SpL->Bool
 | .one s,.one s'=>s.sep s'
 | .cons s l,.cons s' l'=>s.sep s'||l.sep l'
 | _,_=>false
end
theorem Sp.sep_ok{s s':Sp}(h:s.sep s'=true)(x:s.T)(y:s'.T):enc s x≠enc s' y:=by
 cases s<;>cases s'<;>simp only[Sp.sep]at h<;>try (cases h;done)
 intro he
 simp only[enc,AV.fn.injEq,Fn.func.injEq]at he
 rw[he.1,Nat.beq_refl]at h
 cases h
theorem SpL.sep_ok:∀ {l l':SpL},l.sep l'=true->∀ (x:l.T) (y:l'.T),y3 l x≠y3 l' y
 | .nil,l',h,_,_=>by simp[SpL.sep]at h
 | .one s,.nil,h,_,_=>by simp[SpL.sep]at h
 | .one s,.one s',h,x,y=>by
  simp only[SpL.sep]at h
  intro he
  simp only[y3,List.cons.injEq,and_true]at he
  exact Sp.sep_ok h x y he
 | .one s,.cons s' l',h,_,_=>by simp[SpL.sep]at h
 | .cons s l,.nil,h,_,_=>by simp[SpL.sep]at h
 | .cons s l,.one s',h,_,_=>by simp[SpL.sep]at h
 | .cons s l,.cons s' l',h,x,y=>by
  simp only[SpL.sep,Bool.or_eq_true]at h
  intro he
  simp only[y3,List.cons.injEq]at he
  rcases h with h | h
  ·exact Sp.sep_ok h _ _ he.1
  ·exact SpL.sep_ok h _ _ he.2
def cX0(P:Program)(f:FuncId)(args:List AV)(c:AV):Prop:=∀ v z rest,args=v::.sc (.int .i64 (z:Nat))::rest->∃ es es',v=.rs es/\c=.rs es'/\es'.length=es.length /\
 ∀ σ id e restv,σ.objs id=some (.row e z es)->(∀ G vs w,B7 G restv vs->Rel G (σ.del id) w->B7 (G.frozen (σ.del id) w (fun _=>none)) rest vs) ->
  C1 P f (.ms id z 0 es.length::restv) σ (fun v σ'=>v=.tup []/\σ'=σ.set id (.row e z es'))
def gS0(P:Program)(f:FuncId)(args:List AV)(c:AV):Prop:=∃ es,c=.rs es/\∀ T fn t elem ti ei,C2 P T->P.funcs[f]?=some fn->fn.resultTypes.toList=[t]->T t=some ti->ti.und=.slice elem->T elem=some ei ->
 ∀ σ:c9,C1 P f args σ (fun v σ'=>v=.ms (σ.next+5) ei.size 0 es.length/\σ'={ σ with next:=σ.next+7 }.set (σ.next+5) (.row elem ei.size es))
def Good(P:Program)(f:FuncId)(args:List AV)(c:AV):Prop:=(f<XT->F3 P ⟨f,args,c⟩)/\(∀ g,g<XT->f=XT+g->cX0 P g args c)/\∀ g,f=XR+g->gS0 P g args c
structure Hit(P:Program)(ts:List TF)(f:FuncId)(args:List AV)(c:AV):Prop where
 good:Good P f args c
 is:∃ t∈ts,t.f=f/\∃ x r,args=y3 t.dom x/\t.fn x=some r/\c=enc t.cod r
noncomputable def rY0(P:Program)(ts:List TF)(f:FuncId)(args:List AV):Option AV :=
 open Classical in if h:∃ c,Hit P ts f args c then some h.choose else none
theorem ia0{P:Program}{ts:List TF}{f:FuncId}{args:List AV}{c:AV}(h:rY0 P ts f args=some c):Hit P ts f args c:=by
 unfold rY0 at h
 split at h
 ·rename_i hx;cases h;exact hx.choose_spec
 ·cases h
def ty0:List TF->FuncId->Bool
 | [],_=>false
 | t::ts,f=>match Nat.beq t.f f with
  | true=>true
  | false=>ty0 ts f
noncomputable def eA0(P:Program)(ts:List TF):H8:=fun f=>match ty0 ts f with
 | true=>some (rY0 P ts f)
 | false=>none
theorem lC0:∀ {ts:List TF} {t:TF},t∈ts->ty0 ts t.f=true
 | [],_,h=>by simp at h
 | t'::ts,t,h=>by
  unfold ty0
  split
  ·rfl
  ·rename_i hb
   rcases List.mem_cons.1 h with rfl | h
   ·rw[Nat.beq_refl]at hb;cases hb
   ·exact lC0 h
theorem jI0(P:Program)(ts:List TF):ha0 P (eA0 P ts):=by
 refine⟨fun f φ hf h args c hc=>?_,fun f φ hf h=>?_,fun f φ h=>?_⟩
 ·unfold eA0 at h
  split at h
  ·cases h;exact(ia0 hc).good.1 hf
  ·cases h
 ·unfold eA0 at h
  split at h
  ·cases h
   intro v z rest c hc
   exact(ia0 hc).good.2.1 f hf rfl v z rest rfl
  ·cases h
 ·unfold eA0 at h
  split at h
  ·cases h
   intro args c hc
   exact(ia0 hc).good.2.2 f rfl
  ·cases h
def wO0:List TF->Bool
 | []=>true
 | t::ts=>(ts.all fun t'=>!Nat.beq t.f t'.f||t.dom.sep t'.dom)&&wO0 ts
theorem sC0:∀ {ts:List TF},wO0 ts=true->∀ t∈ts,∀ t'∈ts,t'.f=t.f->∀ (x:t.dom.T) (x':t'.dom.T),y3 t'.dom x'=y3 t.dom x->t'=t
 | [],_,t,h,_,_,_,_,_,_=>by simp at h
 | a::ts,hs,t,ht,t',ht',hf,x,x',he=>by
  simp only[wO0,Bool.and_eq_true,List.all_eq_true,Bool.or_eq_true,Bool.not_eq_true']at hs
  rcases List.mem_cons.1 ht with h1 | h1
  ·rcases List.mem_cons.1 ht' with h2 | h2
   ·rw[h1,h2]
   ·subst h1
    rcases hs.1 t' h2 with h3 | h3
    ·rw[hf,Nat.beq_refl]at h3;cases h3
    ·exact absurd he.symm (SpL.sep_ok h3 x x')
  ·rcases List.mem_cons.1 ht' with h2 | h2
   ·subst h2
    rcases hs.1 t h1 with h3 | h3
    ·rw[hf,Nat.beq_refl]at h3;cases h3
    ·exact absurd he (SpL.sep_ok h3 x' x)
   ·exact sC0 hs.2 t h1 t' h2 hf x x' he
theorem P1{P:Program}{ts:List TF}(hs:wO0 ts=true){t:TF}(ht:t∈ts)(h:∀ x r,t.fn x=some r->Good P t.f (y3 t.dom x) (enc t.cod r)):t.Ok (eA0 P ts):=by
 intro x r hx
 refine⟨rY0 P ts t.f,by unfold eA0;rw[lC0 ht],?_⟩
 have hex:∃ c,Hit P ts t.f (y3 t.dom x) c:=⟨_,h x r hx,t,ht,rfl,x,r,rfl,hx,rfl⟩
 unfold rY0
 rw[dif_pos hex]
 obtain⟨hg,t',ht',hf,x',r',he,hfn,hc⟩:=hex.choose_spec
 have:=sC0 hs t ht t' ht' hf x x' he.symm
 subst this
 have:=W9 _ _ _ he
 subst this
 rw[hx]at hfn
 cases hfn
 rw[hc]
theorem Good.memo{P:Program}{f:FuncId}{args:List AV}{c:AV}(hf:f<XT)(h:F3 P ⟨f,args,c⟩):Good P f args c:=by
 refine⟨fun _=>h,fun g _ hg=>?_,fun g hg=>?_⟩<;>exfalso
 ·subst hg
  exact Nat.not_lt.2 (Nat.le_add_right XT g) hf
 ·subst hg
  exact Nat.not_lt.2 (Nat.le_trans (by decide) (Nat.le_add_right XR g)) hf
theorem Good.sort{P:Program}{g:FuncId}{args:List AV}{c:AV}(h:cX0 P g args c)(hg:g<XT:=by decide):Good P (XT+g) args c:=by
 refine⟨fun hf=>absurd hf (Nat.not_lt.2 (Nat.le_add_right XT g)),fun g' _ hg'=>?_,fun g' hg'=>?_⟩
 ·have:g=g':=Nat.add_left_cancel hg'
  rw[<- this]
  exact h
 ·exfalso
  have e:@Eq Nat (1000000+g) (2000000+g'):=hg'
  have hx:@LT.lt Nat _ g 1000000:=hg
  omega
theorem Good.row{P:Program}{g:FuncId}{args:List AV}{c:AV}(h:gS0 P g args c):Good P (XR+g) args c:=by
 refine⟨fun hf=>absurd hf (Nat.not_lt.2 (Nat.le_trans (by decide) (Nat.le_add_right XR g))),fun g' hg' he=>?_,fun g' hg'=>?_⟩
 ·exfalso
  have e:@Eq Nat (2000000+g) (1000000+g'):=he
  have hx:@LT.lt Nat _ g' 1000000:=hg'
  omega
 ·have:g=g':=Nat.add_left_cancel hg'
  rw[<- this]
  exact h
theorem tf_ok{P:Program}{T:Tab}(hT:C2 P T){F:FuncId->Option Func}(hF:∀ f fn,F f=some fn->P.funcs[f]?=some fn)(hm:P.follows .mixedOrders=true){ts Ψ:List TF}(hs:wO0 ts=true)(hΨ:∀ t∈Ψ,t.Ok (eA0 P ts)){t:TF}(ht:t∈ts)(hf:Nat.blt t.f XT=true)
  {H:List (Nat×Hint)} {m:Nat} {pargs:List AV} {fr:Nat} {S:Nat->Option SpL} (hg:un0 T Ψ S t.dom t.cod pargs (gX0 T (eA0 P ts) F H m t.f pargs fr)=t.fn):t.Ok (eA0 P ts) :=
 P1 hs ht fun x r hx=>Good.memo (by simpa using hf) (xs0 hT (jI0 P ts) hF hm hΨ hg hx)
end Go.Ab
