import Derived.Test.YtoehlmiadiiimaaGreatDoorCards
import Derived.Test.YtoehlmiadiiimaaGreatDoorTie
import Derived.JoinedOf
import Derived.SevenTiedAt
import Derived.Test.YtoehlmiadiiimaaGreatDoorTMemKL
import Derived.Test.YtoehlmiadiiimaaGreatDoorTMemR5
import Derived.Test.YtoehlmiadiiimaaGreatDoorTMacK
import Derived.WalkKit
import Derived.ProofKit
import Derived.OpenShut
import Derived.LaidMore
import Derived.Lay
import Derived.Stop.Joined
/-
  The law MachineRuns: the closed facts of its row, each for itself.
-/
namespace Go.Proofs.YtoehlmiadiiimaaGreatDoor.machineRuns
theorem q0:(Rows.machineRunsRow.wf (OpenSpec.ofChange Rows.machineRunsSpec))=true:=by kernel_rfl
theorem q1:(laidOutB Tryz.prog)=true:=by kernel_rfl
theorem q2:(mapsRowed Tryz.prog)=true:=by kernel_rfl
theorem q3:(Tryz.f4.params.all (Tryz.prog.readableRec ·))=true:=by kernel_rfl
theorem q4:(namedTie Tryz.prog Rows.machineRunsRow.named Rows.machineRunsSpec.vars)=true:=by kernel_rfl
theorem q5:((Rows.machineRunsRow.stops == []))=true:=by kernel_rfl
theorem q6:((Tryz.prog.stops == []))=true:=by kernel_rfl
theorem q7:((Rows.machineRunsRow.knobs == []))=true:=by kernel_rfl
theorem q8:((Tryz.prog.stopKnobs == []))=true:=by kernel_rfl
theorem q9:((Rows.machineRunsRow.inPlace == Tryz.prog.inPlace 4))=true:=by kernel_rfl
theorem q10:((Rows.machineRunsRow.unfollowed == Tryz.prog.unfollowed 4))=true:=by kernel_rfl
theorem q11:((Rows.machineRunsRow.recurses == Tryz.prog.recurses 4))=true:=by kernel_rfl
theorem q12:((Rows.machineRunsRow.named == Tryz.prog.varsNamed 4))=true:=by kernel_rfl
theorem q13:((Rows.machineRunsRow.maps == (Tryz.f4.params.toList ++ Rows.machineRunsSpec.plain.varTypes Tryz.prog).any (Tryz.prog.mapsRec ·)))=true:=by kernel_rfl
theorem q14:((Rows.machineRunsRow.ifaces == (Tryz.f4.params.toList ++ Rows.machineRunsSpec.plain.varTypes Tryz.prog).any (Tryz.prog.ifacesRec ·)))=true:=by kernel_rfl
theorem q15:((Rows.machineRunsRow.mapsOut == Tryz.prog.mapsAmong Tryz.f4.resultTypes.toList))=true:=by kernel_rfl
theorem q16:((Rows.machineRunsRow.loops == (Tryz.f4.params.toList ++ Rows.machineRunsSpec.plain.varTypes Tryz.prog).any (Tryz.prog.loopsFrom ·)))=true:=by kernel_rfl
theorem q17:((Rows.machineRunsRow.wideKeys == (Tryz.f4.params.toList ++ Rows.machineRunsSpec.plain.varTypes Tryz.prog ++ Tryz.f4.resultTypes.toList).any (Tryz.prog.wideKeysFrom ·)))=true:=by kernel_rfl
theorem q18:(Rows.machineRunsSpec.vars.all (Tryz.prog.varReadable ·))=true:=by kernel_rfl
theorem q19:(Tryz.f4.resultTypes.all (fun t=>Tryz.prog.readableRec t && decide (t < Tryz.prog.types.size)))=true:=by kernel_rfl
theorem q20:((Rows.machineRunsRow.ifacesOut == Tryz.f4.resultTypes.toList.any (Tryz.prog.ifacesRec ·)))=true:=by kernel_rfl
theorem q21:((Rows.machineRunsRow.loopsOut == Tryz.f4.resultTypes.toList.any (Tryz.prog.loopsFrom ·)))=true:=by kernel_rfl
theorem q22:((Rows.machineRunsRow.plainKeys == Tryz.prog.plainKeys))=true:=by kernel_rfl
theorem q23:(Rows.machineRunsRow.shortTexts.isNone)=true:=by kernel_rfl
theorem q24:(Tryz.prog.stopsHeard)=true:=by kernel_rfl
theorem q25:(Tryz.prog.mayEnter)=true:=by kernel_rfl
theorem q26:((Rows.machineRunsRow.lifted == Tryz.prog.liftsFinal))=true:=by kernel_rfl
theorem q27:((Tryz.prog.make == some Rows.machineRunsRow.make))=true:=by kernel_rfl
theorem q29:((Rows.machineRunsRow.pinned == Rows.machineRunsRow.pinnedBy))=true:=by kernel_rfl
theorem q30:((Rows.machineRunsRow.veiled == (Tryz.f4.params.toList ++ Rows.machineRunsSpec.plain.varTypes Tryz.prog ++ Tryz.f4.resultTypes.toList).any (Tryz.prog.veiledRec ·)))=true:=by kernel_rfl
theorem q31:(Rows.machineRunsRow.veiledFits Tryz.prog Tryz.f4.params.toList (Tryz.f4.params.toList ++ Rows.machineRunsSpec.plain.varTypes Tryz.prog ++ Tryz.f4.resultTypes.toList))=true:=by kernel_rfl
theorem closed:joinedFacts Tryz.prog 4 Tryz.f4 Rows.machineRunsSpec Rows.machineRunsRow=true:=by
 unfold joinedFacts
 simp only [Bool.and_eq_true]
 exact ⟨⟨⟨⟨⟨⟨⟨⟨⟨⟨⟨⟨⟨⟨⟨⟨⟨⟨⟨⟨⟨⟨⟨⟨⟨⟨⟨⟨⟨⟨⟨q0,q1⟩,q2⟩,q3⟩,q4⟩,q5⟩,q6⟩,q7⟩,q8⟩,q9⟩,q10⟩,q11⟩,q12⟩,q13⟩,q14⟩,q15⟩,q16⟩,q17⟩,q18⟩,q19⟩,q20⟩,q21⟩,q22⟩,q23⟩,q24⟩,q25⟩,q26⟩,q27⟩,by kernel_rfl⟩,q29⟩,q30⟩,q31⟩
theorem named:Tryz.prog.funcNamed "quoin/quoinlaw30.MachineRuns" = some 4:=by kernel_rfl
theorem instance_:Tryz.f4.isInstance Tryz.prog Rows.machineRunsRow.origin Rows.machineRunsRow.targs:=of_decide_eq_true (by kernel_rfl)
theorem wrapper:Tryz.f4.isWrapper Tryz.prog Rows.machineRunsRow.wrapper Rows.machineRunsRow.mainSum:=by
 unfold Func.isWrapper; first | (rw [if_pos (by decide +kernel)]; kernel_rfl) | (rw [if_neg (by decide +kernel)]; exact ⟨by kernel_rfl,by kernel_rfl⟩)
theorem byText:Rows.machineRunsRow.wfByText (OpenSpec.ofChange Rows.machineRunsSpec)=true:=by kernel_rfl
theorem mainIs:Tryz.prog.mainIs=some (true,"355b8c12b33af629de6d426eda7db476e97008cc877fedcc678a68a9153aa425".toList):=by kernel_rfl
theorem looks:true=Tryz.prog.looks []:=by kernel_rfl
theorem goesBy:false=Rows.machineRunsRow.goesBy Tryz.prog:=by kernel_rfl
end Go.Proofs.YtoehlmiadiiimaaGreatDoor.machineRuns

/-
  The law MachineRuns of package quoinlaw30 answers true: the tied card.
-/
namespace Go.Proofs.YtoehlmiadiiimaaGreatDoor.machineRuns
open Go.ChangeShapes Go.WideShapes Go.ChangeAt Go.RowKit Go.Proofs.YtoehlmiadiiimaaGreatDoor.Ex
theorem laidOut:laidOutB Tryz.prog=true:=q1
theorem own:ownKnob Tryz.prog.godebug=none:=by kernel_rfl
abbrev laid:List (String×DataW Unit):=Rows.machineRunsRow.laid
theorem laids:Laids laid where
 no:=by kernel_rfl
 m0:=by simp [laid,Rows.machineRunsRow]
 m1:=by simp [laid,Rows.machineRunsRow]
 m2:=by simp [laid,Rows.machineRunsRow]
set_option maxRecDepth 100000 in
theorem lifted (os:Os) (started:os.Started) (H:Type) (enc:TypeId×Value→H) :
  ReturnsInHanded {} Tryz.checked os 4 .any (fun w args=>(Rows.machineRunsSpec.pre enc Tryz.prog Tryz.f4 [] false w args∧laidMetH Tryz.prog laid w)∧sizedMet enc Tryz.prog Tryz.f4 (OpenSpec.ofChange Rows.machineRunsSpec) false w args)
   (Rows.machineRunsSpec.post enc Tryz.prog Tryz.f4 false true false false):=by
 refine returnsInHanded_of_change_and (C:=Tryz.checked) (X:=fun w _=>laidMetH Tryz.prog laid w) (fun _ _ _ hh h=>h.of_heap hh) own started (by kernel_rfl) Tryz.func4
  (ChangeSpec.witness_shaped (enc:=enc) (C:=Tryz.checked) (os:=os) (X:=fun w _=>laidMetH Tryz.prog laid w) false (World.laidAll Tryz.prog os laid) #[.int .u64 0,.slice none 0 0,.int .u64 0,.agg (List.replicate 32 (.int .u64 0)).toArray,.int .i64 0] 8 (World.laidAll_os _ _ _)
    (World.shaped_of_ZipB (by kernel_rfl) (by kernel_rfl)) (by kernel_rfl) (by kernel_rfl) (by kernel_rfl)
    (by rw [MakeChecks.laidMetH_plain _ _ _ (by kernel_rfl)]; exact laidMet_laidAll _ (by kernel_rfl) (by kernel_rfl))) ?_
 intro W base args ds gs before hval0 hW _ _ hL _
 have hval:∀ (j:Nat) t v,Tryz.f4.params[j]?=some t→args[j]?=some v→Value.okWide Tryz.prog W .any base t v:=hval0
 have hW':=hW
 obtain ⟨p,q,hA0,hV,rfl,hfz,hnd⟩:=hW
 have hA:DataW.TrodAll enc Tryz.prog W 0 (fun _=>true) true Tryz.f4.params.toList args.toList ds p:=hA0
 rw [Tryz.params4] at hA hval
 obtain ⟨v0,vs0,d0,ds0,p0,q0,hargs,rfl,rfl,h0,r0⟩:=trodAll_cons hA
 obtain ⟨v1,vs1,d1,ds1,p1,q1,rfl,rfl,rfl,h1,r1⟩:=trodAll_cons r0
 obtain ⟨v2,vs2,d2,ds2,p2,q2,rfl,rfl,rfl,h2,r2⟩:=trodAll_cons r1
 obtain ⟨v3,vs3,d3,ds3,p3,q3,rfl,rfl,rfl,h3,r3⟩:=trodAll_cons r2
 obtain ⟨v4,vs4,d4,ds4,p4,q4,rfl,rfl,rfl,h4,r4⟩:=trodAll_cons r3
 obtain ⟨rfl,rfl,rfl⟩:=trodAll_nil r4
 obtain rfl:args=#[v0,v1,v2,v3,v4]:=by cases args; simp_all
 obtain ⟨rfl,rfl⟩:=trodVars_none hV
 obtain ⟨base_,rfl,rfl,rfl,w0⟩:=open_int Tryz.underlying22 (hval 0 22 v0 rfl rfl) h0
 obtain ⟨A,n,c,l,rfl,hrd,hby⟩:=bytes_of_trod (hval 1 24 v1 rfl rfl) h1
 obtain ⟨pc,rfl,rfl,rfl,w2⟩:=open_int Tryz.underlying22 (hval 2 22 v2 rfl rfl) h2
 obtain ⟨regs,rfl,h32,hR⟩:=regs_of_trod (hval 3 23 v3 rfl rfl) h3
 obtain ⟨steps,rfl,rfl,rfl,w4⟩:=open_int Tryz.underlying3 (hval 4 3 v4 rfl rfl) h4
 have b0:=bounds_u64 w0
 have b2:=bounds_u64 w2
 clear hA0 hval0
 simp only [List.append_nil,List.nil_append] at hW'
 have hLG:=of_laids laids hL
 refine (runs_c base_ pc steps A n c l regs W hrd hby h32 hR b0.1 ⟨b2.1,by unfold B64; omega⟩ hLG (laids_size laids hL)).mono fun e W' ⟨he,hg⟩=>?_
 subst he
 refine ⟨_,rfl,_,_,_,[],_,[],hW',trodAll_cons_mk (shut_bool Tryz.underlying4 _) trodAll_mk0,
  (trodAll_cons_mk (Below.trod laidOut (by kernel_rfl) (by decide +kernel) h0 hg (fun x hx=>by obtain ⟨f,hf⟩:=h0; exact DataW.trod_lt f _ _ _ hf x hx)) (trodAll_cons_mk (Below.trod laidOut (by kernel_rfl) (by decide +kernel) h1 hg (fun x hx=>by obtain ⟨f,hf⟩:=h1; exact DataW.trod_lt f _ _ _ hf x hx)) (trodAll_cons_mk (Below.trod laidOut (by kernel_rfl) (by decide +kernel) h2 hg (fun x hx=>by obtain ⟨f,hf⟩:=h2; exact DataW.trod_lt f _ _ _ hf x hx)) (trodAll_cons_mk (Below.trod laidOut (by kernel_rfl) (by decide +kernel) h3 hg (fun x hx=>by obtain ⟨f,hf⟩:=h3; exact DataW.trod_lt f _ _ _ hf x hx)) (trodAll_cons_mk (Below.trod laidOut (by kernel_rfl) (by decide +kernel) h4 hg (fun x hx=>by obtain ⟨f,hf⟩:=h4; exact DataW.trod_lt f _ _ _ hf x hx)) trodAll_mk0))))),?_,hg.frame _,fun h=>by cases h⟩
 rfl
theorem over:Rows.MachineRunsSaid :=
 OpenClaim.holds_of_wide 4 Tryz.f4 rfl rfl rfl rfl rfl rfl rfl ⟨rfl,rfl,rfl,rfl,rfl⟩ rfl rfl rfl rfl rfl named Tryz.func4 closed
  instance_ wrapper (fun os started H enc _=>lifted os started H enc)
theorem proved:Rows.MachineRunsCardSaid :=
 Claim7.holds_tied_plain_at .later [] [.widerDeep,.data,.data] true (true,"355b8c12b33af629de6d426eda7db476e97008cc877fedcc678a68a9153aa425") true
  over (fun _ h=>by cases h) byText (fun _ h=>by cases h) machineRuns_row_tie rfl ⟨rfl,rfl⟩ mainIs rfl
  (fun f fn hf hfn=>by
    obtain rfl:f=4:=Option.some.inj (named.symm.trans hf) |>.symm
    obtain rfl:fn=Tryz.f4:=(Option.some.inj (Tryz.func4.symm.trans hfn)).symm
    exact ⟨looks,fun j t ht=>by
      rw [Tryz.params4] at ht
      have hm:t∈[22,24,22,23,3]:=by simpa using Array.mem_of_getElem? ht
      have hall:([22,24,22,23,3].all fun u=>!Tryz.prog.wantsStandIn u)=true:=by kernel_rfl
      exact (show Tryz.prog.wantsStandIn t=false by simpa using List.all_eq_true.1 hall t hm)⟩)
  goesBy
#print axioms proved
end Go.Proofs.YtoehlmiadiiimaaGreatDoor.machineRuns

