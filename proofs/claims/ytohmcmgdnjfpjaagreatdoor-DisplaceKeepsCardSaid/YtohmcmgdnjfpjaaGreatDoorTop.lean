/- A part of the proof; its readable source lies in wip of the prover's repo (squeezed here for the limit of bytes). -/
import Derived.Test.YtohmcmgdnjfpjaaGreatDoorMc
import Derived.Test.YtohmcmgdnjfpjaaGreatDoorHand
import Derived.Test.YtohmcmgdnjfpjaaGreatDoorMg
import Derived.Test.YtohmcmgdnjfpjaaGreatDoorMf
import Derived.Test.YtohmcmgdnjfpjaaGreatDoorRows
import Derived.Test.YtohmcmgdnjfpjaaGreatDoorCards
import Derived.Test.YtohmcmgdnjfpjaaGreatDoorTie
import Derived.ProofKit
import Derived.LaidMore
import Derived.OpenShut
import Derived.Stop.Joined
import Derived.SevenTiedAt
set_option linter.all false
open Bool renaming true->No,false->N2
open Decidable renaming decide->Eo
open Option renaming some->Q1,none->Ld
namespace Go.Proofs.YtohmcmgdnjfpjaaGreatDoor
open Go Go.Ab Go.ChangeShapes Go.WideShapes Go.RowKit Go.Proofs
set_option maxRecDepth 100000
def own:ownKnob Tryz.prog.godebug=Ld:=by kernel_rfl
def laidOut:laidOutB Tryz.prog=No:=by kernel_rfl
def aW1:v8 (H:=Unit) Tryz.prog 4 203 Rows.laid_mapsheets_glyph_scripts=Q1 Nt:=by kernel_rfl
def bR2{W:World}(h:W.ShapedOpen Tryz.prog):∃m,W.cell? ⟨3,0,Ld⟩=Q1 (.int .i64 m) :=Go.Proofs.cell_of_shapedOpen_int (t:=3) (zero:=#[.int .i64 0]) h (of_decide_eq_true (by kernel_rfl)) (by kernel_rfl) (by kernel_rfl) (by kernel_rfl) (by kernel_rfl) Tryz.underlying3
def bk1 {W:World} {m:Int} (hX:laidMetH Tryz.prog [("mapsheets/glyph.scripts",Rows.laid_mapsheets_glyph_scripts)] W) (hm:W.cell? ⟨3,0,Ld⟩=Q1 (.int .i64 m)):(haveI:zv:=⟨m⟩;QL W):=by
  letI:zv:=⟨m⟩;intro b o v h;have h:(match Nat.beq b 0 with
    |true=>Nt[o]?
    |false=>match Nat.beq b 3&&Nat.beq o 0 with
      |true=>Q1 (Value.int .i64 m)
      |false=>Ld)=Q1 v:=h
  cases cu:Nat.beq b 0 with
  |true=>rw[cu]at h;have:=Nat.eq_of_beq_eq_true cu;subst this;exact bT8 hX (by kernel_rfl) (by kernel_rfl) (by kernel_rfl) aW1 o v h
  |false=>
    rw[cu]at h;dsimp only at h;cases h3:Nat.beq b 3&&Nat.beq o 0 with
    |false=>rw[h3]at h;cases h
    |true=>rw[h3]at h;rw[Bool.and_eq_true]at h3;have e1:=Nat.eq_of_beq_eq_true h3.1;have e2:=Nat.eq_of_beq_eq_true h3.2;subst e1 e2;cases h;exact(IE hm).2
def bG5:BU Tryz.prog 8 29=No:=by kernel_rfl
def bL6:yz Tryz.prog 8 29=Q1 [(.hF (.cons fk (.cons fk (.one fk)))),(.hF (.cons fk (.cons fk (.cons fk (.cons (.hF (.cons fk (.one fk))) (.cons fk (.one fk))))))),(.hF (.one fk)),(.hF (.cons fk (.cons fk (.cons fk (.cons .str (.one (.hF (.one fk))))))))]:=by kernel_rfl
def bm3(os:Os)(args:Array Value):laidMetH Tryz.prog Rows.displaceKeepsRow.laid ((World.doorLaid Tryz.prog 400 os).forCall (λ_ _=>0) ⟨#[],args,[]⟩).memory :=laidMetH_of_parts3 (fuel:=8) (laidMet_of_run' 8 (by kernel_rfl) (by kernel_rfl)) (by kernel_rfl) (by kernel_rfl)
def bm2:∀t∈Tryz.f3.params.toList,Tryz.prog.readableRec t=No/\t<Tryz.prog.types.size:=by
  rw[Tryz.params3];intro t ht;have hall:([29,3].all λu=>Tryz.prog.readableRec u&&Eo (u<Tryz.prog.types.size))=No:=by kernel_rfl
  have:=List.all_eq_true.1 hall t (by simpa using ht);simpa using this
def bj9(os:Os)(started:os.Started)(H:Type)(enc:TypeId×Value->H) :
    ReturnsInHanded {} Tryz.checked os 3 .any (λw args=>(Rows.displaceKeepsSpec.pre enc Tryz.prog Tryz.f3 [] N2 w args/\laidMetH Tryz.prog Rows.displaceKeepsRow.laid w)/\sizedMet enc Tryz.prog Tryz.f3 (OpenSpec.ofChange Rows.displaceKeepsSpec) N2 w args)
      (Rows.displaceKeepsSpec.post enc Tryz.prog Tryz.f3 N2 No N2 N2):=by
  refine bj8 (C:=Tryz.checked) (X:=λw _=>laidMetH Tryz.prog Rows.displaceKeepsRow.laid w) (λ_ _ _ hh h=>h.of_heap hh) own started (by kernel_rfl) Tryz.func3
    (ChangeSpec.witness_shaped (enc:=enc) (C:=Tryz.checked) (os:=os) (X:=λw _=>laidMetH Tryz.prog Rows.displaceKeepsRow.laid w) N2 (World.doorLaid Tryz.prog 400 os) #[.agg #[.slice Ld 0 0,.slice Ld 0 0,.slice Ld 0 0,.slice Ld 0 0],.int .i64 0] 8 rfl (World.shaped_of_RefB (by kernel_rfl) (by kernel_rfl)) (by kernel_rfl) (by kernel_rfl) (by kernel_rfl) (bm3 os _)) ?_
  intro W base args ds gs before hval0 hW _ hwt hX hsh _;have hval:∀(j:Nat) t v,Tryz.f3.params[j]?=Q1 t->args[j]?=Q1 v->Value.okWide Tryz.prog W .any base t v:=hval0;have hW':=hW;obtain⟨p,q,hA0,hV,rfl,hfz,hnd⟩:=hW;have hA:DataW.TrodAll enc Tryz.prog W 0 (λ_=>No) No Tryz.f3.params.toList args.toList ds p:=hA0;rw[Tryz.params3]at hA hval;have hwt:(DataW.weightsEach Tryz.prog (Tryz.f3.params.toList++[]) (ds++gs)).all (·<=reachBytes)=No:=hwt;rw[Tryz.params3]at hwt;obtain⟨rfl,rfl⟩:=trodVars_none hV;obtain⟨v0,vs0,d0,ds0,p0,qN,ha,rfl,rfl,t0,hA⟩:=trodAll_cons hA;obtain⟨v1,vs1,d1,ds1,mJ,fa,rfl,rfl,rfl,t1,hA⟩:=trodAll_cons hA;obtain⟨rfl,rfl,rfl⟩:=trodAll_nil hA;obtain rfl:args=#[v0,v1]:=by rw[<-Array.toArray_toList (xs:=args),ha]
  have hN:=λn hn=>of_decide_eq_true (List.all_eq_true.1 hwt n hn);obtain⟨m,hm⟩:=bR2 hsh;have hgl:=bk1 hX hm;letI:zv:=⟨m⟩;obtain⟨c0,r0,s0⟩:=bU3 (N:=reachBytes) Tryz.underlying29 bG5 (hval 0 29 v0 rfl rfl) t0 (λn hn=>hN n (MF 0 rfl rfl hn));obtain⟨x0,rfl,b0⟩:=(Qp 8 29 s0 bL6).mk;obtain⟨x1,rfl,b1⟩:=aT2 Tryz.underlying3 t1 (bF9 Tryz.underlying3 (hval 1 3 v1 rfl rfl));have r1:eR (ca.tv W) (.b4 (.int .i64 x1)) (.int .i64 x1):=.b4 _;have hx:Ev (x0,x1)=Q1 No:=Dp.aQ8 x0.1 x0.2.1 x0.2.2.1 x0.2.2.2 x1;have w4:oX Tryz.prog ⟨3,a6 Po.mW (x0,x1),Go.Ab.enc .bool No⟩:=F5 (@bz2 _ hand) (by decide) (x:=(x0,x1)) (r:=No) hx;refine(aF4 Tryz.func3 (by kernel_rfl) (by kernel_rfl) w4 (.cons r0 (.cons r1 (.nil _))) hgl).mono ?_;rintro e W' ⟨rfl,hbel⟩;exact⟨_,rfl,aK9 laidOut rfl bm2 (by kernel_rfl) Tryz.underlying4 ⟨rfl,rfl,rfl⟩ hW' hbel⟩
theorem bg6:Rows.DisplaceKeepsSaid :=
  OpenClaim.holds_of_wide 3 Tryz.f3 rfl rfl rfl rfl rfl rfl rfl ⟨rfl,rfl,rfl,rfl,rfl⟩ rfl rfl rfl rfl rfl fitF Tryz.func3 fits fitI fitW
    (λos started H enc _=>bj9 os started H enc)
theorem displaceKeeps_card:Rows.DisplaceKeepsCardSaid :=
  Claim7.holds_tied_plain_at .later [] [.data] No (No, "c2e2b71f736e415f0e6d2321c8392a857425a33a037be19d285538d15e8cc3bb") N2
    bg6 (λ_ h=>by cases h) (by kernel_rfl) (λ_ h=>by cases h) displaceKeeps_row_tie rfl ⟨rfl,rfl⟩ fitM rfl
    (λf fn hf hfn=>by
      obtain rfl:f=3:=Option.some.inj ((show Tryz.prog.funcNamed Rows.displaceKeepsRow.func=Q1 3 from fitF).symm.trans hf) |>.symm
      obtain rfl:fn=Tryz.f3:=(Option.some.inj (Tryz.func3.symm.trans hfn)).symm;exact⟨fitL,λj t ht=>by
        rw[Tryz.params3]at ht;have hm:t∈[29,3]:=by simpa using Array.mem_of_getElem? ht
        have hall:=fitS;exact(show Tryz.prog.wantsStandIn t=N2 by simpa using List.all_eq_true.1 hall t hm)⟩)
    fitG
#print axioms displaceKeeps_card
end Go.Proofs.YtohmcmgdnjfpjaaGreatDoor
