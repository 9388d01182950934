/- A part of the proof; its readable source lies in wip of the prover's repo (squeezed here for the limit of bytes). -/
import Derived.Test.YtenigicdlmagjaaGreatDoorMd
import Derived.Test.YtenigicdlmagjaaGreatDoorHand
import Derived.Test.YtenigicdlmagjaaGreatDoorMf
import Derived.Test.YtenigicdlmagjaaGreatDoorRows
import Derived.Test.YtenigicdlmagjaaGreatDoorCards
import Derived.Test.YtenigicdlmagjaaGreatDoorTie
import Derived.ProofKit
import Derived.LaidMore
import Derived.OpenShut
import Derived.Stop.Joined
import Derived.SevenTiedAt
set_option linter.unusedVariables false
set_option linter.unusedSimpArgs false
set_option linter.unusedSectionVars false
namespace Go.Proofs.YtenigicdlmagjaaGreatDoor
open Go Go.Ab Go.ChangeShapes Go.WideShapes Go.RowKit Go.Proofs
set_option maxRecDepth 100000
theorem own:ownKnob Tryz.prog.godebug=none:=by kernel_rfl
theorem laidOut:laidOutB Tryz.prog=true:=by kernel_rfl
theorem yj0:gk0 (H:=Unit) Tryz.prog 4 236 Rows.laid_mapsheets_glyph_scripts=some fg0:=by kernel_rfl
theorem mN0{W:World}(h:W.ShapedOpen Tryz.prog):∃ m,W.cell? ⟨1,0,none⟩=some (.int .i64 m) :=Go.Proofs.cell_of_shapedOpen_int (t:=3) (zero:=#[.int .i64 0]) h (of_decide_eq_true (by kernel_rfl)) (by kernel_rfl) (by kernel_rfl) (by kernel_rfl) (by kernel_rfl) Tryz.underlying3
theorem globs {W:World} {m:Int} (hX:laidMetH Tryz.prog [("mapsheets/glyph.scripts",Rows.laid_mapsheets_glyph_scripts)] W) (hm:W.cell? ⟨1,0,none⟩=some (.int .i64 m)):(haveI:Mx:=⟨m⟩;ne0 W):=by
  letI:Mx:=⟨m⟩;intro b o v h;have h:(match Nat.beq b 0 with
    | true=>fg0[o]?
    | false=>match Nat.beq b 1&&Nat.beq o 0 with
      | true=>some (Value.int .i64 m)
      | false=>none)=some v:=h
  cases h0:Nat.beq b 0 with
  | true=>rw[h0]at h;have:=Nat.eq_of_beq_eq_true h0;subst this;exact pS0 hX (by kernel_rfl) (by kernel_rfl) (by kernel_rfl) yj0 o v h
  | false=>
    rw[h0]at h;dsimp only at h;cases h3:Nat.beq b 1&&Nat.beq o 0 with
    | false=>rw[h3]at h;cases h
    | true=>rw[h3]at h;rw[Bool.and_eq_true]at h3;have e1:=Nat.eq_of_beq_eq_true h3.1;have e2:=Nat.eq_of_beq_eq_true h3.2;subst e1 e2;cases h;exact(be0 hm).2
theorem pl29:da0 Tryz.prog 8 29=true:=by kernel_rfl
theorem sf29:Y9 Tryz.prog 8 29=some [(.sl (.cons sI (.cons sI (.one sI)))),(.sl (.cons sI (.cons sI (.cons sI (.cons (.sl (.cons sI (.one sI))) (.cons sI (.one sI))))))),(.sl (.one sI)),(.sl (.cons sI (.cons sI (.cons sI (.cons .str (.one (.sl (.one sI))))))))]:=by kernel_rfl
theorem pl31:da0 Tryz.prog 8 31=true:=by kernel_rfl
theorem sf31:Y9 Tryz.prog 8 31=some [sI,sI,sI,sI,sI,sI]:=by kernel_rfl
theorem dX0(os:Os)(args:Array Value):laidMetH Tryz.prog Rows.collapseOthersRow.laid ((World.doorLaid Tryz.prog 400 os).forCall (fun _ _=>0) ⟨#[],args,[]⟩).memory :=laidMetH_of_parts3 (fuel:=8) (laidMet_of_run' 8 (by kernel_rfl) (by kernel_rfl)) (by kernel_rfl) (by kernel_rfl)
theorem er0:∀ t∈Tryz.f3.params.toList,Tryz.prog.readableRec t=true/\t<Tryz.prog.types.size:=by
  rw[Tryz.params3];intro t ht;have hall:([29,31].all fun u=>Tryz.prog.readableRec u&&decide (u<Tryz.prog.types.size))=true:=by kernel_rfl
  have:=List.all_eq_true.1 hall t (by simpa using ht);simpa using this
theorem dg0(os:Os)(started:os.Started)(H:Type)(enc:TypeId×Value->H) :
    ReturnsInHanded {} Tryz.checked os 3 .any (fun w args=>(Rows.collapseOthersSpec.pre enc Tryz.prog Tryz.f3 [] false w args/\laidMetH Tryz.prog Rows.collapseOthersRow.laid w)/\sizedMet enc Tryz.prog Tryz.f3 (OpenSpec.ofChange Rows.collapseOthersSpec) false w args)
      (Rows.collapseOthersSpec.post enc Tryz.prog Tryz.f3 false true false false):=by
  refine dy0 (C:=Tryz.checked) (X:=fun w _=>laidMetH Tryz.prog Rows.collapseOthersRow.laid w) (fun _ _ _ hh h=>h.of_heap hh) own started (by kernel_rfl) Tryz.func3
    (ChangeSpec.witness_shaped (enc:=enc) (C:=Tryz.checked) (os:=os) (X:=fun w _=>laidMetH Tryz.prog Rows.collapseOthersRow.laid w) false (World.doorLaid Tryz.prog 400 os) #[.agg #[.slice none 0 0,.slice none 0 0,.slice none 0 0,.slice none 0 0],.agg #[.int .i64 0,.int .i64 0,.int .i64 0,.int .i64 0,.int .i64 0,.int .i64 0]] 8 rfl (World.shaped_of_RefB (by kernel_rfl) (by kernel_rfl)) (by kernel_rfl) (by kernel_rfl) (by kernel_rfl) (dX0 os _)) ?_
  intro W base args ds gs before hval0 hW _ hwt hX hsh _;have hval:∀ (j:Nat) t v,Tryz.f3.params[j]?=some t->args[j]?=some v->Value.okWide Tryz.prog W .any base t v:=hval0;have hW':=hW;obtain⟨p,q,hA0,hV,rfl,hfz,hnd⟩:=hW;have hA:DataW.TrodAll enc Tryz.prog W 0 (fun _=>true) true Tryz.f3.params.toList args.toList ds p:=hA0;rw[Tryz.params3]at hA hval;have hwt:(DataW.weightsEach Tryz.prog (Tryz.f3.params.toList++[]) (ds++gs)).all (·<=reachBytes)=true:=hwt;rw[Tryz.params3]at hwt;obtain⟨rfl,rfl⟩:=trodVars_none hV;obtain⟨v0,vs0,d0,ds0,p0,q0,ha,rfl,rfl,t0,hA⟩:=trodAll_cons hA;obtain⟨v1,vs1,d1,ds1,p1,q1,rfl,rfl,rfl,t1,hA⟩:=trodAll_cons hA;obtain⟨rfl,rfl,rfl⟩:=trodAll_nil hA;obtain rfl:args=#[v0,v1]:=by rw[<- Array.toArray_toList (xs:=args),ha]
  have hN:=fun n hn=>of_decide_eq_true (List.all_eq_true.1 hwt n hn);obtain⟨m,hm⟩:=mN0 hsh;have hgl:=globs hX hm;letI:Mx:=⟨m⟩;obtain⟨c0,r0,s0⟩:=ju0 (N:=reachBytes) Tryz.underlying29 pl29 (hval 0 29 v0 rfl rfl) t0 (fun n hn=>hN n (V7 0 rfl rfl hn));obtain⟨x0,rfl,b0⟩:=(kj0 8 29 s0 sf29).mk;obtain⟨c1,r1,s1⟩:=ju0 (N:=reachBytes) Tryz.underlying31 pl31 (hval 1 31 v1 rfl rfl) t1 (fun n hn=>hN n (V7 1 rfl rfl hn));obtain⟨x1,rfl,b1⟩:=(kj0 8 31 s1 sf31).mk;have hx:A7 (x0,x1)=some true:=Dp.CollapseOthers_eq x0.1 x0.2.1 x0.2.2.1 x0.2.2.2 x1 (fun a ha=>Nat.le_trans (b0.2.1.2 a ha).2.2.2.1.1 (by decide));have memo:J1 Tryz.prog ⟨3,y3 q132.dom (x0,x1),Go.Ab.enc .bool true⟩:=eg0 (ok132 hand) (by decide) (x:=(x0,x1)) (r:=true) hx;refine(rj0 Tryz.func3 (by kernel_rfl) (by kernel_rfl) memo (.cons r0 (.cons r1 (.nil _))) hgl).mono ?_;rintro e W' ⟨rfl,hbel⟩;exact⟨_,rfl,tz0 laidOut rfl er0 (by kernel_rfl) Tryz.underlying4 ⟨rfl,rfl,rfl⟩ hW' hbel⟩
theorem collapseOthers_holds:Rows.CollapseOthersSaid :=
  OpenClaim.holds_of_wide 3 Tryz.f3 rfl rfl rfl rfl rfl rfl rfl ⟨rfl,rfl,rfl,rfl,rfl⟩ rfl rfl rfl rfl rfl (by kernel_rfl) Tryz.func3 (by kernel_rfl)
    (of_decide_eq_true (by kernel_rfl)) (by unfold Func.isWrapper;first | (rw[if_pos (by decide +kernel)];kernel_rfl) | (rw[if_neg (by decide +kernel)];exact⟨rfl,rfl⟩))
    (fun os started H enc _=>dg0 os started H enc)
theorem collapseOthers_card:Rows.CollapseOthersCardSaid :=
  Claim7.holds_tied_plain_at .later [] [.data] true (true, "3ca8b9a62a0ff94486efdaa1bb970830e5eff10d81721cccf9b3317fc14054be") false
    collapseOthers_holds (fun _ h=>by cases h) (by kernel_rfl) (fun _ h=>by cases h) collapseOthers_row_tie rfl ⟨rfl,rfl⟩ (by kernel_rfl) rfl
    (fun f fn hf hfn=>by
      obtain rfl:f=3:=Option.some.inj ((show Tryz.prog.funcNamed Rows.collapseOthersRow.func=some 3 by kernel_rfl).symm.trans hf) |>.symm
      obtain rfl:fn=Tryz.f3:=(Option.some.inj (Tryz.func3.symm.trans hfn)).symm;exact⟨by kernel_rfl,fun j t ht=>by
        rw[Tryz.params3]at ht;have hm:t∈[29,31]:=by simpa using Array.mem_of_getElem? ht
        have hall:([29,31].all fun u=>!Tryz.prog.wantsStandIn u)=true:=by kernel_rfl
        exact(show Tryz.prog.wantsStandIn t=false by simpa using List.all_eq_true.1 hall t hm)⟩)
    (by kernel_rfl)
#print axioms collapseOthers_card
end Go.Proofs.YtenigicdlmagjaaGreatDoor
