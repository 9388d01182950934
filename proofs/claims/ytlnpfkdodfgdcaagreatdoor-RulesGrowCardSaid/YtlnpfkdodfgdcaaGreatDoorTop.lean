/- The statements RulesOrder and RulesGrow of chapter 36 hold: for every input the call returns true, and the input reads as it did. No condition but those of the rows. -/
import Derived.Test.YtlnpfkdodfgdcaaGreatDoorMd
import Derived.Test.YtlnpfkdodfgdcaaGreatDoorHand
import Derived.Test.YtlnpfkdodfgdcaaGreatDoorMf
import Derived.Test.YtlnpfkdodfgdcaaGreatDoorRows
import Derived.Test.YtlnpfkdodfgdcaaGreatDoorCards
import Derived.Test.YtlnpfkdodfgdcaaGreatDoorTie
import Derived.ProofKit
import Derived.LaidMore
import Derived.OpenShut
import Derived.Stop.Joined
import Derived.SevenTiedAt
set_option linter.unusedVariables false
set_option linter.unusedSimpArgs false
set_option linter.unusedSectionVars false
namespace Go.Proofs.YtlnpfkdodfgdcaaGreatDoor
open Go Go.Ab Go.ChangeShapes Go.WideShapes Go.RowKit Go.Proofs
set_option maxRecDepth 100000
theorem own:ownKnob Tryz.prog.godebug=none:=by kernel_rfl
theorem laidOut:laidOutB Tryz.prog=true:=by kernel_rfl
theorem wz0:gc0 (H:=Unit) Tryz.prog 4 177 Rows.laid_mapsheets_glyph_scripts=some fe0:=by kernel_rfl
theorem hk0{W:World}(h:W.ShapedOpen Tryz.prog):∃ m,W.cell? ⟨3,0,none⟩=some (.int .i64 m) :=
  Go.Proofs.cell_of_shapedOpen_int (t:=3) (zero:=#[.int .i64 0]) h (of_decide_eq_true (by kernel_rfl)) (by kernel_rfl) (by kernel_rfl) (by kernel_rfl) (by kernel_rfl) Tryz.underlying3
theorem globs {W:World} {m:Int} (hX:laidMetH Tryz.prog [("mapsheets/glyph.scripts",Rows.laid_mapsheets_glyph_scripts)] W) (hm:W.cell? ⟨3,0,none⟩=some (.int .i64 m)):(haveI:Mx:=⟨m⟩;nj0 W):=by
  letI:Mx:=⟨m⟩
  intro b o v h
  have h:(match Nat.beq b 0 with
    | true=>fe0[o]?
    | false=>match Nat.beq b 3&&Nat.beq o 0 with
      | true=>some (Value.int .i64 m)
      | false=>none)=some v:=h
  cases h0:Nat.beq b 0 with
  | true =>
    rw[h0]at h
    have:=Nat.eq_of_beq_eq_true h0
    subst this
    exact pg0 hX (by kernel_rfl) (by kernel_rfl) (by kernel_rfl) wz0 o v h
  | false =>
    rw[h0]at h
    dsimp only at h
    cases h3:Nat.beq b 3&&Nat.beq o 0 with
    | false=>rw[h3]at h;cases h
    | true =>
      rw[h3]at h
      rw[Bool.and_eq_true]at h3
      have e1:=Nat.eq_of_beq_eq_true h3.1
      have e2:=Nat.eq_of_beq_eq_true h3.2
      subst e1 e2
      cases h
      exact(aY0 hm).2
theorem pl29:cP0 Tryz.prog 8 29=true:=by kernel_rfl
theorem sf29:W3 Tryz.prog 8 29=some [(.sl (.cons sI (.cons sI (.one sI)))),(.sl (.cons sI (.cons sI (.cons sI (.cons (.sl (.cons sI (.one sI))) (.cons sI (.one sI))))))),(.sl (.one sI)),(.sl (.cons sI (.cons sI (.cons sI (.cons .str (.one (.sl (.one sI))))))))]:=by kernel_rfl
theorem pl31:cP0 Tryz.prog 8 31=true:=by kernel_rfl
theorem sf31:W3 Tryz.prog 8 31=some [sI,sI,sI,sI,sI,sI]:=by kernel_rfl
theorem gM0(os:Os)(args:Array Value):laidMetH Tryz.prog Rows.rulesOrderRow.laid ((World.doorLaid Tryz.prog 400 os).forCall (fun _ _=>0) ⟨#[],args,[]⟩).memory :=
  laidMetH_of_parts3 (fuel:=8) (laidMet_of_run' 8 (by kernel_rfl) (by kernel_rfl)) (by kernel_rfl) (by kernel_rfl)
theorem hH0:∀ t∈Tryz.f3.params.toList,Tryz.prog.readableRec t=true/\t<Tryz.prog.types.size:=by
  rw[Tryz.params3]
  intro t ht
  have hall:([29,31].all fun u=>Tryz.prog.readableRec u&&decide (u<Tryz.prog.types.size))=true:=by kernel_rfl
  have:=List.all_eq_true.1 hall t (by simpa using ht)
  simpa using this
theorem fw0(os:Os)(started:os.Started)(H:Type)(enc:TypeId×Value->H) :
    ReturnsInHanded {} Tryz.checked os 3 .any (fun w args=>(Rows.rulesOrderSpec.pre enc Tryz.prog Tryz.f3 [] false w args/\laidMetH Tryz.prog Rows.rulesOrderRow.laid w)/\sizedMet enc Tryz.prog Tryz.f3 (OpenSpec.ofChange Rows.rulesOrderSpec) false w args)
      (Rows.rulesOrderSpec.post enc Tryz.prog Tryz.f3 false true false false):=by
  refine Z9 (C:=Tryz.checked) (X:=fun w _=>laidMetH Tryz.prog Rows.rulesOrderRow.laid w) (fun _ _ _ hh h=>h.of_heap hh) own started (by kernel_rfl) Tryz.func3
    (ChangeSpec.witness_shaped (enc:=enc) (C:=Tryz.checked) (os:=os) (X:=fun w _=>laidMetH Tryz.prog Rows.rulesOrderRow.laid w) false (World.doorLaid Tryz.prog 400 os) #[.agg #[.slice none 0 0,.slice none 0 0,.slice none 0 0,.slice none 0 0],.agg #[.int .i64 0,.int .i64 0,.int .i64 0,.int .i64 0,.int .i64 0,.int .i64 0]] 8 rfl (World.shaped_of_RefB (by kernel_rfl) (by kernel_rfl)) (by kernel_rfl) (by kernel_rfl) (by kernel_rfl) (gM0 os _)) ?_
  intro W base args ds gs before hval0 hW _ hwt hX hsh _
  have hval:∀ (j:Nat) t v,Tryz.f3.params[j]?=some t->args[j]?=some v->Value.okWide Tryz.prog W .any base t v:=hval0
  have hW':=hW
  obtain⟨p,q,hA0,hV,rfl,hfz,hnd⟩:=hW
  have hA:DataW.TrodAll enc Tryz.prog W 0 (fun _=>true) true Tryz.f3.params.toList args.toList ds p:=hA0
  rw[Tryz.params3]at hA hval
  have hwt:(DataW.weightsEach Tryz.prog (Tryz.f3.params.toList++[]) (ds++gs)).all (·<=reachBytes)=true:=hwt
  rw[Tryz.params3]at hwt
  obtain⟨rfl,rfl⟩:=trodVars_none hV
  obtain⟨v0,vs0,d0,ds0,p0,q0,ha,rfl,rfl,t0,hA⟩:=trodAll_cons hA
  obtain⟨v1,vs1,d1,ds1,p1,q1,rfl,rfl,rfl,t1,hA⟩:=trodAll_cons hA
  obtain⟨rfl,rfl,rfl⟩:=trodAll_nil hA
  obtain rfl:args=#[v0,v1]:=by
    rw[<- Array.toArray_toList (xs:=args),ha]
  have hN:=fun n hn=>of_decide_eq_true (List.all_eq_true.1 hwt n hn)
  obtain⟨m,hm⟩:=hk0 hsh
  have hgl:=globs hX hm
  letI:Mx:=⟨m⟩
  obtain⟨c0,r0,s0⟩:=do0 (N:=reachBytes) Tryz.underlying29 pl29 (hval 0 29 v0 rfl rfl) t0 (fun n hn=>hN n (K2 0 rfl rfl hn))
  obtain⟨x0,rfl,b0⟩:=(fo0 8 29 s0 sf29).mk
  obtain⟨c1,r1,s1⟩:=do0 (N:=reachBytes) Tryz.underlying31 pl31 (hval 1 31 v1 rfl rfl) t1 (fun n hn=>hN n (K2 1 rfl rfl hn))
  obtain⟨x1,rfl,b1⟩:=(fo0 8 31 s1 sf31).mk
  have hx:C6 (x0,x1)=some true:=kr0 x0.1 x0.2.1 x0.2.2.1 x0.2.2.2 x1 (fun a ha=>Nat.le_trans (b0.2.1.2 a ha).2.2.2.1.1 (by decide))
  have memo:E0 Tryz.prog ⟨3,y9 q121.dom (x0,x1),Go.Ab.enc .bool true⟩:=gN0 (ok121 hand) (by decide) (x:=(x0,x1)) (r:=true) hx
  refine(lH0 Tryz.func3 (by kernel_rfl) (by kernel_rfl) memo (.cons r0 (.cons r1 (.nil _))) hgl).mono ?_
  rintro e W' ⟨rfl,hbel⟩
  exact⟨_,rfl,nK0 laidOut rfl hH0 (by kernel_rfl) Tryz.underlying4 ⟨rfl,rfl,rfl⟩ hW' hbel⟩
theorem rulesOrder_holds:Rows.RulesOrderSaid :=
  OpenClaim.holds_of_wide 3 Tryz.f3 rfl rfl rfl rfl rfl rfl rfl ⟨rfl,rfl,rfl,rfl,rfl⟩ rfl rfl rfl rfl rfl (by kernel_rfl) Tryz.func3 (by kernel_rfl)
    (of_decide_eq_true (by kernel_rfl)) (by unfold Func.isWrapper;first | (rw[if_pos (by decide +kernel)];kernel_rfl) | (rw[if_neg (by decide +kernel)];exact⟨rfl,rfl⟩))
    (fun os started H enc _=>fw0 os started H enc)
theorem rulesOrder_card:Rows.RulesOrderCardSaid :=
  Claim7.holds_tied_plain_at .later [] [.data] true (true, "eb2f354af2446509ae479740f53f77c3fae138f91802d213f137e97729209b36") false
    rulesOrder_holds (fun _ h=>by cases h) (by kernel_rfl) (fun _ h=>by cases h) rulesOrder_row_tie rfl ⟨rfl,rfl⟩ (by kernel_rfl) rfl
    (fun f fn hf hfn=>by
      obtain rfl:f=3:=Option.some.inj ((show Tryz.prog.funcNamed Rows.rulesOrderRow.func=some 3 by kernel_rfl).symm.trans hf) |>.symm
      obtain rfl:fn=Tryz.f3:=(Option.some.inj (Tryz.func3.symm.trans hfn)).symm
      exact⟨by kernel_rfl,fun j t ht=>by
        rw[Tryz.params3]at ht
        have hm:t∈[29,31]:=by simpa using Array.mem_of_getElem? ht
        have hall:([29,31].all fun u=>!Tryz.prog.wantsStandIn u)=true:=by kernel_rfl
        exact(show Tryz.prog.wantsStandIn t=false by simpa using List.all_eq_true.1 hall t hm)⟩)
    (by kernel_rfl)
#print axioms rulesOrder_card
theorem iF0(os:Os)(args:Array Value):laidMetH Tryz.prog Rows.rulesGrowRow.laid ((World.doorLaid Tryz.prog 400 os).forCall (fun _ _=>0) ⟨#[],args,[]⟩).memory :=
  laidMetH_of_parts3 (fuel:=8) (laidMet_of_run' 8 (by kernel_rfl) (by kernel_rfl)) (by kernel_rfl) (by kernel_rfl)
theorem iH0:∀ t∈Tryz.f4.params.toList,Tryz.prog.readableRec t=true/\t<Tryz.prog.types.size:=by
  rw[Tryz.params4]
  intro t ht
  have hall:([29,31,43,43,43,43].all fun u=>Tryz.prog.readableRec u&&decide (u<Tryz.prog.types.size))=true:=by kernel_rfl
  have:=List.all_eq_true.1 hall t (by simpa using ht)
  simpa using this
theorem gk0(os:Os)(started:os.Started)(H:Type)(enc:TypeId×Value->H) :
    ReturnsInHanded {} Tryz.checked os 4 .any (fun w args=>(Rows.rulesGrowSpec.pre enc Tryz.prog Tryz.f4 [] false w args/\laidMetH Tryz.prog Rows.rulesGrowRow.laid w)/\sizedMet enc Tryz.prog Tryz.f4 (OpenSpec.ofChange Rows.rulesGrowSpec) false w args)
      (Rows.rulesGrowSpec.post enc Tryz.prog Tryz.f4 false true false false):=by
  refine Z9 (C:=Tryz.checked) (X:=fun w _=>laidMetH Tryz.prog Rows.rulesGrowRow.laid w) (fun _ _ _ hh h=>h.of_heap hh) own started (by kernel_rfl) Tryz.func4
    (ChangeSpec.witness_shaped (enc:=enc) (C:=Tryz.checked) (os:=os) (X:=fun w _=>laidMetH Tryz.prog Rows.rulesGrowRow.laid w) false (World.doorLaid Tryz.prog 400 os) #[.agg #[.slice none 0 0,.slice none 0 0,.slice none 0 0,.slice none 0 0],.agg #[.int .i64 0,.int .i64 0,.int .i64 0,.int .i64 0,.int .i64 0,.int .i64 0],.int .u16 0,.int .u16 0,.int .u16 0,.int .u16 0] 8 rfl (World.shaped_of_RefB (by kernel_rfl) (by kernel_rfl)) (by kernel_rfl) (by kernel_rfl) (by kernel_rfl) (iF0 os _)) ?_
  intro W base args ds gs before hval0 hW _ hwt hX hsh _
  have hval:∀ (j:Nat) t v,Tryz.f4.params[j]?=some t->args[j]?=some v->Value.okWide Tryz.prog W .any base t v:=hval0
  have hW':=hW
  obtain⟨p,q,hA0,hV,rfl,hfz,hnd⟩:=hW
  have hA:DataW.TrodAll enc Tryz.prog W 0 (fun _=>true) true Tryz.f4.params.toList args.toList ds p:=hA0
  rw[Tryz.params4]at hA hval
  have hwt:(DataW.weightsEach Tryz.prog (Tryz.f4.params.toList++[]) (ds++gs)).all (·<=reachBytes)=true:=hwt
  rw[Tryz.params4]at hwt
  obtain⟨rfl,rfl⟩:=trodVars_none hV
  obtain⟨v0,vs0,d0,ds0,p0,q0,ha,rfl,rfl,t0,hA⟩:=trodAll_cons hA
  obtain⟨v1,vs1,d1,ds1,p1,q1,rfl,rfl,rfl,t1,hA⟩:=trodAll_cons hA
  obtain⟨v2,vs2,d2,ds2,p2,q2,rfl,rfl,rfl,t2,hA⟩:=trodAll_cons hA
  obtain⟨v3,vs3,d3,ds3,p3,q3,rfl,rfl,rfl,t3,hA⟩:=trodAll_cons hA
  obtain⟨v4,vs4,d4,ds4,p4,q4,rfl,rfl,rfl,t4,hA⟩:=trodAll_cons hA
  obtain⟨v5,vs5,d5,ds5,p5,q5,rfl,rfl,rfl,t5,hA⟩:=trodAll_cons hA
  obtain⟨rfl,rfl,rfl⟩:=trodAll_nil hA
  obtain rfl:args=#[v0,v1,v2,v3,v4,v5]:=by
    rw[<- Array.toArray_toList (xs:=args),ha]
  have hN:=fun n hn=>of_decide_eq_true (List.all_eq_true.1 hwt n hn)
  obtain⟨m,hm⟩:=hk0 hsh
  have hgl:=globs hX hm
  letI:Mx:=⟨m⟩
  obtain⟨c0,r0,s0⟩:=do0 (N:=reachBytes) Tryz.underlying29 pl29 (hval 0 29 v0 rfl rfl) t0 (fun n hn=>hN n (K2 0 rfl rfl hn))
  obtain⟨x0,rfl,b0⟩:=(fo0 8 29 s0 sf29).mk
  obtain⟨c1,r1,s1⟩:=do0 (N:=reachBytes) Tryz.underlying31 pl31 (hval 1 31 v1 rfl rfl) t1 (fun n hn=>hN n (K2 1 rfl rfl hn))
  obtain⟨x1,rfl,b1⟩:=(fo0 8 31 s1 sf31).mk
  obtain⟨x2,rfl,b2⟩:=jM0 Tryz.underlying43 t2 (af0 Tryz.underlying43 (hval 2 43 v2 rfl rfl))
  have r2:Rep (j4.ofWorld W) (.sc (.int .u16 x2)) (.int .u16 x2):=.sc _
  obtain⟨x3,rfl,b3⟩:=jM0 Tryz.underlying43 t3 (af0 Tryz.underlying43 (hval 3 43 v3 rfl rfl))
  have r3:Rep (j4.ofWorld W) (.sc (.int .u16 x3)) (.int .u16 x3):=.sc _
  obtain⟨x4,rfl,b4⟩:=jM0 Tryz.underlying43 t4 (af0 Tryz.underlying43 (hval 4 43 v4 rfl rfl))
  have r4:Rep (j4.ofWorld W) (.sc (.int .u16 x4)) (.int .u16 x4):=.sc _
  obtain⟨x5,rfl,b5⟩:=jM0 Tryz.underlying43 t5 (af0 Tryz.underlying43 (hval 5 43 v5 rfl rfl))
  have r5:Rep (j4.ofWorld W) (.sc (.int .u16 x5)) (.int .u16 x5):=.sc _
  have hx:D3 (x0,x1,x2,x3,x4,x5)=some true:=kM0 x0.1 x0.2.1 x0.2.2.1 x0.2.2.2 x1 x2 x3 x4 x5 (fun a ha=>Nat.le_trans (b0.2.1.2 a ha).2.2.2.1.1 (by decide)) (jB0 b2) (jB0 b3) (jB0 b4) (jB0 b5)
  have memo:E0 Tryz.prog ⟨4,y9 q122.dom (x0,x1,x2,x3,x4,x5),Go.Ab.enc .bool true⟩:=gN0 (ok122 hand) (by decide) (x:=(x0,x1,x2,x3,x4,x5)) (r:=true) hx
  refine(lH0 Tryz.func4 (by kernel_rfl) (by kernel_rfl) memo (.cons r0 (.cons r1 (.cons r2 (.cons r3 (.cons r4 (.cons r5 (.nil _))))))) hgl).mono ?_
  rintro e W' ⟨rfl,hbel⟩
  exact⟨_,rfl,nK0 laidOut rfl iH0 (by kernel_rfl) Tryz.underlying4 ⟨rfl,rfl,rfl⟩ hW' hbel⟩
theorem rulesGrow_holds:Rows.RulesGrowSaid :=
  OpenClaim.holds_of_wide 4 Tryz.f4 rfl rfl rfl rfl rfl rfl rfl ⟨rfl,rfl,rfl,rfl,rfl⟩ rfl rfl rfl rfl rfl (by kernel_rfl) Tryz.func4 (by kernel_rfl)
    (of_decide_eq_true (by kernel_rfl)) (by unfold Func.isWrapper;first | (rw[if_pos (by decide +kernel)];kernel_rfl) | (rw[if_neg (by decide +kernel)];exact⟨rfl,rfl⟩))
    (fun os started H enc _=>gk0 os started H enc)
theorem rulesGrow_card:Rows.RulesGrowCardSaid :=
  Claim7.holds_tied_plain_at .later [] [.data] true (true, "eb2f354af2446509ae479740f53f77c3fae138f91802d213f137e97729209b36") false
    rulesGrow_holds (fun _ h=>by cases h) (by kernel_rfl) (fun _ h=>by cases h) rulesGrow_row_tie rfl ⟨rfl,rfl⟩ (by kernel_rfl) rfl
    (fun f fn hf hfn=>by
      obtain rfl:f=4:=Option.some.inj ((show Tryz.prog.funcNamed Rows.rulesGrowRow.func=some 4 by kernel_rfl).symm.trans hf) |>.symm
      obtain rfl:fn=Tryz.f4:=(Option.some.inj (Tryz.func4.symm.trans hfn)).symm
      exact⟨by kernel_rfl,fun j t ht=>by
        rw[Tryz.params4]at ht
        have hm:t∈[29,31,43,43,43,43]:=by simpa using Array.mem_of_getElem? ht
        have hall:([29,31,43,43,43,43].all fun u=>!Tryz.prog.wantsStandIn u)=true:=by kernel_rfl
        exact(show Tryz.prog.wantsStandIn t=false by simpa using List.all_eq_true.1 hall t hm)⟩)
    (by kernel_rfl)
#print axioms rulesGrow_card
end Go.Proofs.YtlnpfkdodfgdcaaGreatDoor
