/- A part of the proof; its readable source lies in wip of the prover's repo (squeezed here for the limit of bytes). -/
import Derived.Test.YtiogbkenmjdkoaaGreatDoorMd
import Derived.Test.YtiogbkenmjdkoaaGreatDoorHand
import Derived.Test.YtiogbkenmjdkoaaGreatDoorMg
import Derived.Test.YtiogbkenmjdkoaaGreatDoorRows
import Derived.Test.YtiogbkenmjdkoaaGreatDoorCards
import Derived.Test.YtiogbkenmjdkoaaGreatDoorTie
import Derived.ProofKit
import Derived.LaidMore
import Derived.OpenShut
import Derived.Stop.Joined
import Derived.SevenTiedAt
set_option linter.all false
open Bool renaming true->IN,false->IS
open Decidable renaming decide->IT
open Option renaming some->U,none->No
namespace Go.Proofs.YtiogbkenmjdkoaaGreatDoor
open Go Go.Ab Go.ChangeShapes Go.WideShapes Go.RowKit Go.Proofs
set_option maxRecDepth 100000
theorem okWide_cells1{P:Program}{W:World}{base:Nat}{t:TypeId}{kd:IntKind}{v:Value}(ht:P.underlying t=some (.int kd))(hv:Value.okWide P W .any base t v):v.cells.toList=[v]:=by
  unfold Value.okWide at hv;rw[ht]at hv;simp only at hv
  cases v<;>simp[Cell.okWide,Cell.ok,ht]at hv<;>rfl
theorem arg_int{H:Type}{enc:TypeId×Value->H}{P:Program}{W:World}{t:TypeId}{kd:IntKind}{v:Value}{d:DataW H}{p:List MemPlace}(ht:P.underlying t=some (.int kd))(h:DataW.Trod enc P W 0 (fun _=>true) true t v d p)(hv:v.cells.toList=[v]):∃n,v=.int kd n/\(Lit.int kd n).wf=true:=by
  obtain⟨fuel,hf⟩:=h
  grind[DataW.trod_int]
def own:ownKnob Tryz.prog.godebug=No:=by kernel_rfl
def laidOut:laidOutB Tryz.prog=IN:=by kernel_rfl
def YM:u4 (H:=Unit) Tryz.prog 4 228 Rows.laid_mapsheets_glyph_scripts=U Mj:=by kernel_rfl
def aQ6{W:World}(h:W.ShapedOpen Tryz.prog):∃m,W.cell? ⟨1,0,No⟩=U (.int .i64 m) :=Go.Proofs.cell_of_shapedOpen_int (t:=3) (zero:=#[.int .i64 0]) h (of_decide_eq_true (by kernel_rfl)) (by kernel_rfl) (by kernel_rfl) (by kernel_rfl) (by kernel_rfl) Tryz.underlying3
def av0 {W:World} {m:Int} (hX:laidMetH Tryz.prog [("mapsheets/glyph.scripts",Rows.laid_mapsheets_glyph_scripts)] W) (hm:W.cell? ⟨1,0,No⟩=U (.int .i64 m)):(haveI:yC:=⟨m⟩;NR W):=by
  letI:yC:=⟨m⟩;intro b o v h;have h:(match Nat.beq b 0 with
    |true=>Mj[o]?
    |false=>match Nat.beq b 1&&Nat.beq o 0 with
      |true=>U (Value.int .i64 m)
      |false=>No)=U v:=h
  cases h0:Nat.beq b 0 with
  |true=>rw[h0]at h;have:=Nat.eq_of_beq_eq_true h0;subst this;exact ba7 hX (by kernel_rfl) (by kernel_rfl) (by kernel_rfl) YM o v h
  |false=>
    rw[h0]at h;dsimp only at h;cases h3:Nat.beq b 1&&Nat.beq o 0 with
    |false=>rw[h3]at h;cases h
    |true=>rw[h3]at h;rw[Bool.and_eq_true]at h3;have e1:=Nat.eq_of_beq_eq_true h3.1;have e2:=Nat.eq_of_beq_eq_true h3.2;subst e1 e2;cases h;exact(G1 hm).2
def aP1:yZ Tryz.prog 8 29=IN:=by kernel_rfl
def aX7:wD Tryz.prog 8 29=U [(.ft (.cons d' (.cons d' (.one d')))),(.ft (.cons d' (.cons d' (.cons d' (.cons (.ft (.cons d' (.one d'))) (.cons d' (.one d'))))))),(.ft (.one d')),(.ft (.cons d' (.cons d' (.cons d' (.cons .str (.one (.ft (.one d'))))))))]:=by kernel_rfl
def aa1(os:Os)(args:Array Value):laidMetH Tryz.prog Rows.collapseInsideRow.laid ((World.doorLaid Tryz.prog 400 os).forCall (λ_ _=>0) ⟨#[],args,[]⟩).memory :=laidMetH_of_parts3 (fuel:=8) (laidMet_of_run' 8 (by kernel_rfl) (by kernel_rfl)) (by kernel_rfl) (by kernel_rfl)
def aa0:∀t∈Tryz.f4.params.toList,Tryz.prog.readableRec t=IN/\t<Tryz.prog.types.size:=by
  rw[Tryz.params4];intro t ht;have hall:([29,3].all λu=>Tryz.prog.readableRec u&&IT (u<Tryz.prog.types.size))=IN:=by kernel_rfl
  have:=List.all_eq_true.1 hall t (by simpa using ht);simpa using this
def Z_(os:Os)(started:os.Started)(H:Type)(enc:TypeId×Value->H) :
    ReturnsInHanded {} Tryz.checked os 4 .any (λw args=>(Rows.collapseInsideSpec.pre enc Tryz.prog Tryz.f4 [] IS w args/\laidMetH Tryz.prog Rows.collapseInsideRow.laid w)/\sizedMet enc Tryz.prog Tryz.f4 (OpenSpec.ofChange Rows.collapseInsideSpec) IS w args)
      (Rows.collapseInsideSpec.post enc Tryz.prog Tryz.f4 IS IN IS IS):=by
  refine at4 (C:=Tryz.checked) (X:=λw _=>laidMetH Tryz.prog Rows.collapseInsideRow.laid w) (λ_ _ _ hh h=>h.of_heap hh) own started (by kernel_rfl) Tryz.func4
    (ChangeSpec.witness_shaped (enc:=enc) (C:=Tryz.checked) (os:=os) (X:=λw _=>laidMetH Tryz.prog Rows.collapseInsideRow.laid w) IS (World.doorLaid Tryz.prog 400 os) #[.agg #[.slice No 0 0,.slice No 0 0,.slice No 0 0,.slice No 0 0],.int .i64 0] 8 rfl (World.shaped_of_RefB (by kernel_rfl) (by kernel_rfl)) (by kernel_rfl) (by kernel_rfl) (by kernel_rfl) (aa1 os _)) ?_
  intro W base args ds gs before hval0 hW _ hwt hX hsh _;have hval:∀(j:Nat) t v,Tryz.f4.params[j]?=U t->args[j]?=U v->Value.okWide Tryz.prog W .any base t v:=hval0;have hW':=hW;obtain⟨p,q,hA0,hV,rfl,hfz,hnd⟩:=hW;have hA:DataW.TrodAll enc Tryz.prog W 0 (λ_=>IN) IN Tryz.f4.params.toList args.toList ds p:=hA0;rw[Tryz.params4]at hA hval;have hwt:(DataW.weightsEach Tryz.prog (Tryz.f4.params.toList++[]) (ds++gs)).all (·<=reachBytes)=IN:=hwt;rw[Tryz.params4]at hwt;obtain⟨rfl,rfl⟩:=trodVars_none hV;obtain⟨v0,vs0,d0,ds0,p0,tf,ha,rfl,rfl,t0,hA⟩:=trodAll_cons hA;obtain⟨v1,vs1,d1,ds1,mb,lL,rfl,rfl,rfl,t1,hA⟩:=trodAll_cons hA;obtain⟨rfl,rfl,rfl⟩:=trodAll_nil hA;obtain rfl:args=#[v0,v1]:=by rw[<-Array.toArray_toList (xs:=args),ha]
  have hN:=λn hn=>of_decide_eq_true (List.all_eq_true.1 hwt n hn);obtain⟨m,hm⟩:=aQ6 hsh;have hgl:=av0 hX hm;letI:yC:=⟨m⟩;obtain⟨c0,r0,s0⟩:=Tg (N:=reachBytes) Tryz.underlying29 aP1 (hval 0 29 v0 rfl rfl) t0 (λn hn=>hN n (GS 0 rfl rfl hn));obtain⟨x0,rfl,b0⟩:=(Iw 8 29 s0 aX7).mk;obtain⟨x1,rfl,b1⟩:=arg_int Tryz.underlying3 t1 (okWide_cells1 Tryz.underlying3 (hval 1 3 v1 rfl rfl));have r1:lB (cb.sD W) (.bF (.int .i64 x1)) (.int .i64 x1):=.bF _;have hx:GV (x0,x1)=U IN:=Dp.Z5 x0.1 x0.2.1 x0.2.2.1 x0.2.2.2 x1 (λa ha=>Nat.le_trans (b0.2.1.2 a ha).2.2.2.1.1 (by decide));have w_:oI Tryz.prog ⟨4,e8 I9.nq (x0,x1),Go.Ab.enc .bool IN⟩:=A0 (@aF3 _ hand) (by decide) (x:=(x0,x1)) (r:=IN) hx;refine(bi7 Tryz.func4 (by kernel_rfl) (by kernel_rfl) w_ (.cons r0 (.cons r1 (.nil _))) hgl).mono ?_;rintro e W' ⟨rfl,hbel⟩;exact⟨_,rfl,bs9 laidOut rfl aa0 (by kernel_rfl) Tryz.underlying4 ⟨rfl,rfl,rfl⟩ hW' hbel⟩
theorem Z':Rows.CollapseInsideSaid :=
  OpenClaim.holds_of_wide 4 Tryz.f4 rfl rfl rfl rfl rfl rfl rfl ⟨rfl,rfl,rfl,rfl,rfl⟩ rfl rfl rfl rfl rfl (by kernel_rfl) Tryz.func4 (by kernel_rfl)
    (of_decide_eq_true (by kernel_rfl)) (by unfold Func.isWrapper;first| (rw[if_pos (by decide +kernel)];kernel_rfl)| (rw[if_neg (by decide +kernel)];exact⟨rfl,rfl⟩))
    (λos started H enc _=>Z_ os started H enc)
theorem collapseInside_card:Rows.CollapseInsideCardSaid :=
  Claim7.holds_tied_plain_at .later [] [.data] IN (IN, "048b70ce677f892a07e3c7fd140937f4814604ac258c4041364bda6e3f78004e") IS
    Z' (λ_ h=>by cases h) (by kernel_rfl) (λ_ h=>by cases h) collapseInside_row_tie rfl ⟨rfl,rfl⟩ (by kernel_rfl) rfl
    (λf fn hf hfn=>by
      obtain rfl:f=4:=Option.some.inj ((show Tryz.prog.funcNamed Rows.collapseInsideRow.func=U 4 by kernel_rfl).symm.trans hf) |>.symm
      obtain rfl:fn=Tryz.f4:=(Option.some.inj (Tryz.func4.symm.trans hfn)).symm;exact⟨by kernel_rfl,λj t ht=>by
        rw[Tryz.params4]at ht;have hm:t∈[29,3]:=by simpa using Array.mem_of_getElem? ht
        have hall:([29,3].all λu=>!Tryz.prog.wantsStandIn u)=IN:=by kernel_rfl
        exact(show Tryz.prog.wantsStandIn t=IS by simpa using List.all_eq_true.1 hall t hm)⟩)
    (by kernel_rfl)
#print axioms collapseInside_card
end Go.Proofs.YtiogbkenmjdkoaaGreatDoor
