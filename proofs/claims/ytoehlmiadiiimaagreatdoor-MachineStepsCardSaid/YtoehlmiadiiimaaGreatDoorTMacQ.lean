import Derived.Test.YtoehlmiadiiimaaGreatDoorCards
import Derived.Test.YtoehlmiadiiimaaGreatDoorTie
import Derived.JoinedOf
import Derived.SevenTiedAt
import Derived.Test.YtoehlmiadiiimaaGreatDoorTMemM5
import Derived.Test.YtoehlmiadiiimaaGreatDoorTMemR5
import Derived.Test.YtoehlmiadiiimaaGreatDoorTMacK
import Derived.WalkKit
import Derived.ProofKit
import Derived.OpenShut
import Derived.LaidMore
import Derived.Lay
import Derived.Stop.Joined
/-
  The law MachineSteps: the closed facts of its row, each for itself.
-/
namespace Go.Proofs.YtoehlmiadiiimaaGreatDoor.machineSteps
theorem q0:(Rows.machineStepsRow.wf (OpenSpec.ofChange Rows.machineStepsSpec))=true:=by kernel_rfl
theorem q1:(laidOutB Tryz.prog)=true:=by kernel_rfl
theorem q2:(mapsRowed Tryz.prog)=true:=by kernel_rfl
theorem q3:(Tryz.f3.params.all (Tryz.prog.readableRec ·))=true:=by kernel_rfl
theorem q4:(namedTie Tryz.prog Rows.machineStepsRow.named Rows.machineStepsSpec.vars)=true:=by kernel_rfl
theorem q5:((Rows.machineStepsRow.stops == []))=true:=by kernel_rfl
theorem q6:((Tryz.prog.stops == []))=true:=by kernel_rfl
theorem q7:((Rows.machineStepsRow.knobs == []))=true:=by kernel_rfl
theorem q8:((Tryz.prog.stopKnobs == []))=true:=by kernel_rfl
theorem q9:((Rows.machineStepsRow.inPlace == Tryz.prog.inPlace 3))=true:=by kernel_rfl
theorem q10:((Rows.machineStepsRow.unfollowed == Tryz.prog.unfollowed 3))=true:=by kernel_rfl
theorem q11:((Rows.machineStepsRow.recurses == Tryz.prog.recurses 3))=true:=by kernel_rfl
theorem q12:((Rows.machineStepsRow.named == Tryz.prog.varsNamed 3))=true:=by kernel_rfl
theorem q13:((Rows.machineStepsRow.maps == (Tryz.f3.params.toList ++ Rows.machineStepsSpec.plain.varTypes Tryz.prog).any (Tryz.prog.mapsRec ·)))=true:=by kernel_rfl
theorem q14:((Rows.machineStepsRow.ifaces == (Tryz.f3.params.toList ++ Rows.machineStepsSpec.plain.varTypes Tryz.prog).any (Tryz.prog.ifacesRec ·)))=true:=by kernel_rfl
theorem q15:((Rows.machineStepsRow.mapsOut == Tryz.prog.mapsAmong Tryz.f3.resultTypes.toList))=true:=by kernel_rfl
theorem q16:((Rows.machineStepsRow.loops == (Tryz.f3.params.toList ++ Rows.machineStepsSpec.plain.varTypes Tryz.prog).any (Tryz.prog.loopsFrom ·)))=true:=by kernel_rfl
theorem q17:((Rows.machineStepsRow.wideKeys == (Tryz.f3.params.toList ++ Rows.machineStepsSpec.plain.varTypes Tryz.prog ++ Tryz.f3.resultTypes.toList).any (Tryz.prog.wideKeysFrom ·)))=true:=by kernel_rfl
theorem q18:(Rows.machineStepsSpec.vars.all (Tryz.prog.varReadable ·))=true:=by kernel_rfl
theorem q19:(Tryz.f3.resultTypes.all (fun t=>Tryz.prog.readableRec t && decide (t < Tryz.prog.types.size)))=true:=by kernel_rfl
theorem q20:((Rows.machineStepsRow.ifacesOut == Tryz.f3.resultTypes.toList.any (Tryz.prog.ifacesRec ·)))=true:=by kernel_rfl
theorem q21:((Rows.machineStepsRow.loopsOut == Tryz.f3.resultTypes.toList.any (Tryz.prog.loopsFrom ·)))=true:=by kernel_rfl
theorem q22:((Rows.machineStepsRow.plainKeys == Tryz.prog.plainKeys))=true:=by kernel_rfl
theorem q23:(Rows.machineStepsRow.shortTexts.isNone)=true:=by kernel_rfl
theorem q24:(Tryz.prog.stopsHeard)=true:=by kernel_rfl
theorem q25:(Tryz.prog.mayEnter)=true:=by kernel_rfl
theorem q26:((Rows.machineStepsRow.lifted == Tryz.prog.liftsFinal))=true:=by kernel_rfl
theorem q27:((Tryz.prog.make == some Rows.machineStepsRow.make))=true:=by kernel_rfl
theorem q29:((Rows.machineStepsRow.pinned == Rows.machineStepsRow.pinnedBy))=true:=by kernel_rfl
theorem q30:((Rows.machineStepsRow.veiled == (Tryz.f3.params.toList ++ Rows.machineStepsSpec.plain.varTypes Tryz.prog ++ Tryz.f3.resultTypes.toList).any (Tryz.prog.veiledRec ·)))=true:=by kernel_rfl
theorem q31:(Rows.machineStepsRow.veiledFits Tryz.prog Tryz.f3.params.toList (Tryz.f3.params.toList ++ Rows.machineStepsSpec.plain.varTypes Tryz.prog ++ Tryz.f3.resultTypes.toList))=true:=by kernel_rfl
theorem closed:joinedFacts Tryz.prog 3 Tryz.f3 Rows.machineStepsSpec Rows.machineStepsRow=true:=by
 unfold joinedFacts
 simp only [Bool.and_eq_true]
 exact ⟨⟨⟨⟨⟨⟨⟨⟨⟨⟨⟨⟨⟨⟨⟨⟨⟨⟨⟨⟨⟨⟨⟨⟨⟨⟨⟨⟨⟨⟨⟨q0,q1⟩,q2⟩,q3⟩,q4⟩,q5⟩,q6⟩,q7⟩,q8⟩,q9⟩,q10⟩,q11⟩,q12⟩,q13⟩,q14⟩,q15⟩,q16⟩,q17⟩,q18⟩,q19⟩,q20⟩,q21⟩,q22⟩,q23⟩,q24⟩,q25⟩,q26⟩,q27⟩,by kernel_rfl⟩,q29⟩,q30⟩,q31⟩
theorem named:Tryz.prog.funcNamed "quoin/quoinlaw30.MachineSteps" = some 3:=by kernel_rfl
theorem instance_:Tryz.f3.isInstance Tryz.prog Rows.machineStepsRow.origin Rows.machineStepsRow.targs:=of_decide_eq_true (by kernel_rfl)
theorem wrapper:Tryz.f3.isWrapper Tryz.prog Rows.machineStepsRow.wrapper Rows.machineStepsRow.mainSum:=by
 unfold Func.isWrapper; first | (rw [if_pos (by decide +kernel)]; kernel_rfl) | (rw [if_neg (by decide +kernel)]; exact ⟨by kernel_rfl,by kernel_rfl⟩)
theorem byText:Rows.machineStepsRow.wfByText (OpenSpec.ofChange Rows.machineStepsSpec)=true:=by kernel_rfl
theorem mainIs:Tryz.prog.mainIs=some (true,"355b8c12b33af629de6d426eda7db476e97008cc877fedcc678a68a9153aa425".toList):=by kernel_rfl
theorem looks:true=Tryz.prog.looks []:=by kernel_rfl
theorem goesBy:false=Rows.machineStepsRow.goesBy Tryz.prog:=by kernel_rfl
end Go.Proofs.YtoehlmiadiiimaaGreatDoor.machineSteps

/-
  The law MachineSteps of package quoinlaw30 answers true: the tied card.
-/
namespace Go.Proofs.YtoehlmiadiiimaaGreatDoor.machineSteps
open Go.ChangeShapes Go.WideShapes Go.ChangeAt Go.RowKit Go.Proofs.YtoehlmiadiiimaaGreatDoor.Ex
theorem laidOut:laidOutB Tryz.prog=true:=q1
theorem own:ownKnob Tryz.prog.godebug=none:=by kernel_rfl
abbrev laid:List (String×DataW Unit):=Rows.machineStepsRow.laid
theorem laids:Laids laid where
 no:=by kernel_rfl
 m0:=by simp [laid,Rows.machineStepsRow]
 m1:=by simp [laid,Rows.machineStepsRow]
 m2:=by simp [laid,Rows.machineStepsRow]
set_option maxRecDepth 100000 in
theorem lifted (os:Os) (started:os.Started) (H:Type) (enc:TypeId×Value→H) :
  ReturnsInHanded {} Tryz.checked os 3 .any (fun w args=>(Rows.machineStepsSpec.pre enc Tryz.prog Tryz.f3 [] false w args∧laidMetH Tryz.prog laid w)∧sizedMet enc Tryz.prog Tryz.f3 (OpenSpec.ofChange Rows.machineStepsSpec) false w args)
   (Rows.machineStepsSpec.post enc Tryz.prog Tryz.f3 false true false false):=by
 refine returnsInHanded_of_change_and (C:=Tryz.checked) (X:=fun w _=>laidMetH Tryz.prog laid w) (fun _ _ _ hh h=>h.of_heap hh) own started (by kernel_rfl) Tryz.func3
  (ChangeSpec.witness_shaped (enc:=enc) (C:=Tryz.checked) (os:=os) (X:=fun w _=>laidMetH Tryz.prog laid w) false (World.laidAll Tryz.prog os laid) #[.agg z27,.agg z27] 8 (World.laidAll_os _ _ _)
    (World.shaped_of_ZipB (by kernel_rfl) (by kernel_rfl)) (by kernel_rfl) (by kernel_rfl) (by kernel_rfl)
    (by rw [MakeChecks.laidMetH_plain _ _ _ (by kernel_rfl)]; exact laidMet_laidAll _ (by kernel_rfl) (by kernel_rfl))) ?_
 intro W base args ds gs before hval0 hW _ _ hL _
 have hval:∀ (j:Nat) t v,Tryz.f3.params[j]?=some t→args[j]?=some v→Value.okWide Tryz.prog W .any base t v:=hval0
 have hW':=hW
 obtain ⟨p,q,hA0,hV,rfl,hfz,hnd⟩:=hW
 have hA:DataW.TrodAll enc Tryz.prog W 0 (fun _=>true) true Tryz.f3.params.toList args.toList ds p:=hA0
 rw [Tryz.params3] at hA hval
 obtain ⟨v0,vs0,d0,ds0,p0,q0,hargs,rfl,rfl,h0,r0⟩:=trodAll_cons hA
 obtain ⟨v1,vs1,d1,ds1,p1,q1,rfl,rfl,rfl,h1,r1⟩:=trodAll_cons r0
 obtain ⟨rfl,rfl,rfl⟩:=trodAll_nil r1
 obtain rfl:args=#[v0,v1]:=by cases args; simp_all
 obtain ⟨rfl,rfl⟩:=trodVars_none hV
 obtain ⟨r,hr,hs⟩:=mach_of_trod (hval 0 27 v0 rfl rfl) h0
 obtain ⟨r',hr',hs'⟩:=mach_of_trod (hval 1 27 v1 rfl rfl) h1
 clear hA0 hval0
 simp only [List.append_nil] at hW'
 have hLG:=of_laids laids hL
 refine (steps_c v0 v1 r r' W hr hr' hs hs' hLG (laids_size laids hL)).mono fun e W' ⟨he,hg⟩=>?_
 subst he
 refine ⟨_,rfl,_,_,_,[],_,[],hW',trodAll_cons_mk (shut_bool Tryz.underlying4 _) trodAll_mk0,
  (trodAll_cons_mk (Below.trod laidOut (by kernel_rfl) (by decide +kernel) h0 hg (fun x hx=>by obtain ⟨f,hf⟩:=h0; exact DataW.trod_lt f _ _ _ hf x hx)) (trodAll_cons_mk (Below.trod laidOut (by kernel_rfl) (by decide +kernel) h1 hg (fun x hx=>by obtain ⟨f,hf⟩:=h1; exact DataW.trod_lt f _ _ _ hf x hx)) trodAll_mk0)),?_,hg.frame _,fun h=>by cases h⟩
 rfl
theorem over:Rows.MachineStepsSaid :=
 OpenClaim.holds_of_wide 3 Tryz.f3 rfl rfl rfl rfl rfl rfl rfl ⟨rfl,rfl,rfl,rfl,rfl⟩ rfl rfl rfl rfl rfl named Tryz.func3 closed
  instance_ wrapper (fun os started H enc _=>lifted os started H enc)
theorem proved:Rows.MachineStepsCardSaid :=
 Claim7.holds_tied_plain_at .later [] [.widerDeep,.data,.data] true (true,"355b8c12b33af629de6d426eda7db476e97008cc877fedcc678a68a9153aa425") true
  over (fun _ h=>by cases h) byText (fun _ h=>by cases h) machineSteps_row_tie rfl ⟨rfl,rfl⟩ mainIs rfl
  (fun f fn hf hfn=>by
    obtain rfl:f=3:=Option.some.inj (named.symm.trans hf) |>.symm
    obtain rfl:fn=Tryz.f3:=(Option.some.inj (Tryz.func3.symm.trans hfn)).symm
    exact ⟨looks,fun j t ht=>by
      rw [Tryz.params3] at ht
      have hm:t∈[27,27]:=by simpa using Array.mem_of_getElem? ht
      have hall:([27,27].all fun u=>!Tryz.prog.wantsStandIn u)=true:=by kernel_rfl
      exact (show Tryz.prog.wantsStandIn t=false by simpa using List.all_eq_true.1 hall t hm)⟩)
  goesBy
#print axioms proved
end Go.Proofs.YtoehlmiadiiimaaGreatDoor.machineSteps

