/- The statement RulesFind holds: for every survey and specification the call returns true, and the input reads as it did. No condition but the row's own. -/
import Derived.Test.YtgahoiioknakhaaGreatDoorMc
import Derived.Test.YtgahoiioknakhaaGreatDoorHand
import Derived.Test.YtgahoiioknakhaaGreatDoorMg
import Derived.Test.YtgahoiioknakhaaGreatDoorMe
import Derived.Test.YtgahoiioknakhaaGreatDoorRows
import Derived.Test.YtgahoiioknakhaaGreatDoorCards
import Derived.Test.YtgahoiioknakhaaGreatDoorTie
import Derived.ProofKit
import Derived.LaidMore
import Derived.OpenShut
import Derived.Stop.Joined
import Derived.SevenTiedAt
set_option linter.all false
open Bool renaming true->Y,false->U
open Decidable renaming decide->No
open Option renaming some->Z,none->W
namespace Go.Proofs.YtgahoiioknakhaaGreatDoor
open Go Go.Ab Go.ChangeShapes Go.WideShapes Go.RowKit Go.Proofs
set_option maxRecDepth 100000
def own:ownKnob Tryz.prog.godebug=W:=by kernel_rfl
def laidOut:laidOutB Tryz.prog=Y:=by kernel_rfl
def aW1:v8 (H:=Unit) Tryz.prog 4 203 Rows.laid_mapsheets_glyph_scripts=Z Nt:=by kernel_rfl
def bR2{kO:World}(h:kO.ShapedOpen Tryz.prog):∃m,kO.cell? ⟨3,0,W⟩=Z (.int .i64 m) :=Go.Proofs.cell_of_shapedOpen_int (t:=3) (zero:=#[.int .i64 0]) h (of_decide_eq_true (by kernel_rfl)) (by kernel_rfl) (by kernel_rfl) (by kernel_rfl) (by kernel_rfl) Tryz.underlying3
def aX4 {kO:World} {m:Int} (hX:laidMetH Tryz.prog [("mapsheets/glyph.scripts",Rows.laid_mapsheets_glyph_scripts)] kO) (hm:kO.cell? ⟨3,0,W⟩=Z (.int .i64 m)):(haveI:zv:=⟨m⟩;QL kO):=by
  letI:zv:=⟨m⟩;intro b o v h;have h:(match Nat.beq b 0 with
    |true=>Nt[o]?
    |false=>match Nat.beq b 3&&Nat.beq o 0 with
      |true=>Z (Value.int .i64 m)
      |false=>W)=Z v:=h
  cases h0:Nat.beq b 0 with
  |true=>rw[h0]at h;have:=Nat.eq_of_beq_eq_true h0;subst this;exact bT8 hX (by kernel_rfl) (by kernel_rfl) (by kernel_rfl) aW1 o v h
  |false=>
    rw[h0]at h;dsimp only at h;cases h3:Nat.beq b 3&&Nat.beq o 0 with
    |false=>rw[h3]at h;cases h
    |true=>rw[h3]at h;rw[Bool.and_eq_true]at h3;have e1:=Nat.eq_of_beq_eq_true h3.1;have e2:=Nat.eq_of_beq_eq_true h3.2;subst e1 e2;cases h;exact(IE hm).2
def bG5:BU Tryz.prog 8 29=Y:=by kernel_rfl
def bL6:yz Tryz.prog 8 29=Z [(.hF (.cons fk (.cons fk (.one fk)))),(.hF (.cons fk (.cons fk (.cons fk (.cons (.hF (.cons fk (.one fk))) (.cons fk (.one fk))))))),(.hF (.one fk)),(.hF (.cons fk (.cons fk (.cons fk (.cons .str (.one (.hF (.one fk))))))))]:=by kernel_rfl
theorem bH6:BU Tryz.prog 8 31=Y:=by kernel_rfl
def bJ0:yz Tryz.prog 8 31=Z [fk,fk,fk,fk,fk,fk]:=by kernel_rfl
def aP8(os:Os)(args:Array Value):laidMetH Tryz.prog Rows.rulesFindRow.laid ((World.doorLaid Tryz.prog 400 os).forCall (λ_ _=>0) ⟨#[],args,[]⟩).memory :=laidMetH_of_parts3 (fuel:=8) (laidMet_of_run' 8 (by kernel_rfl) (by kernel_rfl)) (by kernel_rfl) (by kernel_rfl)
def aQ0:∀t∈Tryz.f3.params.toList,Tryz.prog.readableRec t=Y/\t<Tryz.prog.types.size:=by
  rw[Tryz.params3];intro t ht;have hall:([29,31].all λu=>Tryz.prog.readableRec u&&No (u<Tryz.prog.types.size))=Y:=by kernel_rfl
  have:=List.all_eq_true.1 hall t (by simpa using ht);simpa using this
def aP0(os:Os)(started:os.Started)(H:Type)(enc:TypeId×Value->H) :
    ReturnsInHanded {} Tryz.checked os 3 .any (λw args=>(Rows.rulesFindSpec.pre enc Tryz.prog Tryz.f3 [] U w args/\laidMetH Tryz.prog Rows.rulesFindRow.laid w)/\sizedMet enc Tryz.prog Tryz.f3 (OpenSpec.ofChange Rows.rulesFindSpec) U w args)
      (Rows.rulesFindSpec.post enc Tryz.prog Tryz.f3 U Y U U):=by
  refine bj8 (C:=Tryz.checked) (X:=λw _=>laidMetH Tryz.prog Rows.rulesFindRow.laid w) (λ_ _ _ hh h=>h.of_heap hh) own started (by kernel_rfl) Tryz.func3
    (ChangeSpec.witness_shaped (enc:=enc) (C:=Tryz.checked) (os:=os) (X:=λw _=>laidMetH Tryz.prog Rows.rulesFindRow.laid w) U (World.doorLaid Tryz.prog 400 os) #[.agg #[.slice W 0 0,.slice W 0 0,.slice W 0 0,.slice W 0 0],.agg #[.int .i64 0,.int .i64 0,.int .i64 0,.int .i64 0,.int .i64 0,.int .i64 0]] 8 rfl (World.shaped_of_RefB (by kernel_rfl) (by kernel_rfl)) (by kernel_rfl) (by kernel_rfl) (by kernel_rfl) (aP8 os _)) ?_
  intro kO base args ds gs before hval0 hW _ hwt hX hsh _;have hval:∀(j:Nat) t v,Tryz.f3.params[j]?=Z t->args[j]?=Z v->Value.okWide Tryz.prog kO .any base t v:=hval0;have hW':=hW;obtain⟨p,q,hA0,hV,rfl,hfz,hnd⟩:=hW;have hA:DataW.TrodAll enc Tryz.prog kO 0 (λ_=>Y) Y Tryz.f3.params.toList args.toList ds p:=hA0;rw[Tryz.params3]at hA hval;have hwt:(DataW.weightsEach Tryz.prog (Tryz.f3.params.toList++[]) (ds++gs)).all (·<=reachBytes)=Y:=hwt;rw[Tryz.params3]at hwt;obtain⟨rfl,rfl⟩:=trodVars_none hV;obtain⟨v0,vs0,d0,ds0,p0,qN,ha,rfl,rfl,t0,hA⟩:=trodAll_cons hA;obtain⟨v1,vs1,d1,ds1,q5,fa,rfl,rfl,rfl,t1,hA⟩:=trodAll_cons hA;obtain⟨rfl,rfl,rfl⟩:=trodAll_nil hA;obtain rfl:args=#[v0,v1]:=by rw[<-Array.toArray_toList (xs:=args),ha]
  have hN:=λn hn=>of_decide_eq_true (List.all_eq_true.1 hwt n hn);obtain⟨m,hm⟩:=bR2 hsh;have hgl:=aX4 hX hm;letI:zv:=⟨m⟩;obtain⟨c0,r0,s0⟩:=bU3 (N:=reachBytes) Tryz.underlying29 bG5 (hval 0 29 v0 rfl rfl) t0 (λn hn=>hN n (MF 0 rfl rfl hn));obtain⟨x0,rfl,b0⟩:=(Qp 8 29 s0 bL6).mk;obtain⟨c1,r1,s1⟩:=bU3 (N:=reachBytes) Tryz.underlying31 bH6 (hval 1 31 v1 rfl rfl) t1 (λn hn=>hN n (MF 1 rfl rfl hn));obtain⟨x1,rfl,b1⟩:=(Qp 8 31 s1 bJ0).mk;have hx:KW (x0,x1)=Z Y:=Dp.aM6 br4 x0.1 x0.2.1 x0.2.2.1 x0.2.2.2 x1 (λa ha=>Nat.le_trans (b0.2.1.2 a ha).2.2.2.1.1 (by decide));have vh:oX Tryz.prog ⟨3,a6 Sk.mW (x0,x1),Go.Ab.enc .bool Y⟩:=F5 (@bx4 _ hand) (by decide) (x:=(x0,x1)) (r:=Y) hx;refine(aF4 Tryz.func3 (by kernel_rfl) (by kernel_rfl) vh (.cons r0 (.cons r1 (.nil _))) hgl).mono ?_;rintro e W' ⟨rfl,hbel⟩;exact⟨_,rfl,aK9 laidOut rfl aQ0 (by kernel_rfl) Tryz.underlying4 ⟨rfl,rfl,rfl⟩ hW' hbel⟩
theorem bI8:Rows.RulesFindSaid :=
  OpenClaim.holds_of_wide 3 Tryz.f3 rfl rfl rfl rfl rfl rfl rfl ⟨rfl,rfl,rfl,rfl,rfl⟩ rfl rfl rfl rfl rfl fitF Tryz.func3 fits fitI fitW
    (λos started H enc _=>aP0 os started H enc)
theorem rulesFind_card:Rows.RulesFindCardSaid :=
  Claim7.holds_tied_plain_at .later [] [.data] Y (Y, "fc50f1161da507d2cd34d836569bb4136d3aaad96c1d73399f4bf35b596c6b8b") U
    bI8 (λ_ h=>by cases h) (by kernel_rfl) (λ_ h=>by cases h) rulesFind_row_tie rfl ⟨rfl,rfl⟩ fitM rfl
    (λf fn hf hfn=>by
      obtain rfl:f=3:=Option.some.inj ((show Tryz.prog.funcNamed Rows.rulesFindRow.func=Z 3 from fitF).symm.trans hf) |>.symm
      obtain rfl:fn=Tryz.f3:=(Option.some.inj (Tryz.func3.symm.trans hfn)).symm;exact⟨fitL,λj t ht=>by
        rw[Tryz.params3]at ht;have hm:t∈[29,31]:=by simpa using Array.mem_of_getElem? ht
        have hall:=fitS;exact(show Tryz.prog.wantsStandIn t=U by simpa using List.all_eq_true.1 hall t hm)⟩)
    fitG
#print axioms rulesFind_card
end Go.Proofs.YtgahoiioknakhaaGreatDoor
