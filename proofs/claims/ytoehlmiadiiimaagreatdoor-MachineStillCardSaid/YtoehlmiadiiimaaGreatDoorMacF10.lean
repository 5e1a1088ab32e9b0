/-
  The law MachineStill: the closed facts of its row, each for itself.
-/
import Derived.Test.YtoehlmiadiiimaaGreatDoorCards
import Derived.Test.YtoehlmiadiiimaaGreatDoorTie
import Derived.JoinedOf
import Derived.SevenTiedAt
namespace Go.Proofs.YtoehlmiadiiimaaGreatDoor.machineStill

theorem q0 : (Rows.machineStillRow.wf (OpenSpec.ofChange Rows.machineStillSpec)) = true := by kernel_rfl
theorem q1 : (laidOutB Tryz.prog) = true := by kernel_rfl
theorem q2 : (mapsRowed Tryz.prog) = true := by kernel_rfl
theorem q3 : (Tryz.f10.params.all (Tryz.prog.readableRec ·)) = true := by kernel_rfl
theorem q4 : (namedTie Tryz.prog Rows.machineStillRow.named Rows.machineStillSpec.vars) = true := by kernel_rfl
theorem q5 : ((Rows.machineStillRow.stops == [])) = true := by kernel_rfl
theorem q6 : ((Tryz.prog.stops == [])) = true := by kernel_rfl
theorem q7 : ((Rows.machineStillRow.knobs == [])) = true := by kernel_rfl
theorem q8 : ((Tryz.prog.stopKnobs == [])) = true := by kernel_rfl
theorem q9 : ((Rows.machineStillRow.inPlace == Tryz.prog.inPlace 10)) = true := by kernel_rfl
theorem q10 : ((Rows.machineStillRow.unfollowed == Tryz.prog.unfollowed 10)) = true := by kernel_rfl
theorem q11 : ((Rows.machineStillRow.recurses == Tryz.prog.recurses 10)) = true := by kernel_rfl
theorem q12 : ((Rows.machineStillRow.named == Tryz.prog.varsNamed 10)) = true := by kernel_rfl
theorem q13 : ((Rows.machineStillRow.maps == (Tryz.f10.params.toList ++ Rows.machineStillSpec.plain.varTypes Tryz.prog).any (Tryz.prog.mapsRec ·))) = true := by kernel_rfl
theorem q14 : ((Rows.machineStillRow.ifaces == (Tryz.f10.params.toList ++ Rows.machineStillSpec.plain.varTypes Tryz.prog).any (Tryz.prog.ifacesRec ·))) = true := by kernel_rfl
theorem q15 : ((Rows.machineStillRow.mapsOut == Tryz.prog.mapsAmong Tryz.f10.resultTypes.toList)) = true := by kernel_rfl
theorem q16 : ((Rows.machineStillRow.loops == (Tryz.f10.params.toList ++ Rows.machineStillSpec.plain.varTypes Tryz.prog).any (Tryz.prog.loopsFrom ·))) = true := by kernel_rfl
theorem q17 : ((Rows.machineStillRow.wideKeys == (Tryz.f10.params.toList ++ Rows.machineStillSpec.plain.varTypes Tryz.prog ++ Tryz.f10.resultTypes.toList).any (Tryz.prog.wideKeysFrom ·))) = true := by kernel_rfl
theorem q18 : (Rows.machineStillSpec.vars.all (Tryz.prog.varReadable ·)) = true := by kernel_rfl
theorem q19 : (Tryz.f10.resultTypes.all (fun t => Tryz.prog.readableRec t && decide (t < Tryz.prog.types.size))) = true := by kernel_rfl
theorem q20 : ((Rows.machineStillRow.ifacesOut == Tryz.f10.resultTypes.toList.any (Tryz.prog.ifacesRec ·))) = true := by kernel_rfl
theorem q21 : ((Rows.machineStillRow.loopsOut == Tryz.f10.resultTypes.toList.any (Tryz.prog.loopsFrom ·))) = true := by kernel_rfl
theorem q22 : ((Rows.machineStillRow.plainKeys == Tryz.prog.plainKeys)) = true := by kernel_rfl
theorem q23 : (Rows.machineStillRow.shortTexts.isNone) = true := by kernel_rfl
theorem q24 : (Tryz.prog.stopsHeard) = true := by kernel_rfl
theorem q25 : (Tryz.prog.mayEnter) = true := by kernel_rfl
theorem q26 : ((Rows.machineStillRow.lifted == Tryz.prog.liftsFinal)) = true := by kernel_rfl
theorem q27 : ((Tryz.prog.make == some Rows.machineStillRow.make)) = true := by kernel_rfl
theorem q29 : ((Rows.machineStillRow.pinned == Rows.machineStillRow.pinnedBy)) = true := by kernel_rfl
theorem q30 : ((Rows.machineStillRow.veiled == (Tryz.f10.params.toList ++ Rows.machineStillSpec.plain.varTypes Tryz.prog ++ Tryz.f10.resultTypes.toList).any (Tryz.prog.veiledRec ·))) = true := by kernel_rfl
theorem q31 : (Rows.machineStillRow.veiledFits Tryz.prog Tryz.f10.params.toList (Tryz.f10.params.toList ++ Rows.machineStillSpec.plain.varTypes Tryz.prog ++ Tryz.f10.resultTypes.toList)) = true := by kernel_rfl
theorem closed : joinedFacts Tryz.prog 10 Tryz.f10 Rows.machineStillSpec Rows.machineStillRow = true := by
  unfold joinedFacts
  simp only [Bool.and_eq_true]
  exact ⟨⟨⟨⟨⟨⟨⟨⟨⟨⟨⟨⟨⟨⟨⟨⟨⟨⟨⟨⟨⟨⟨⟨⟨⟨⟨⟨⟨⟨⟨⟨q0, q1⟩, q2⟩, q3⟩, q4⟩, q5⟩, q6⟩, q7⟩, q8⟩, q9⟩, q10⟩, q11⟩, q12⟩, q13⟩, q14⟩, q15⟩, q16⟩, q17⟩, q18⟩, q19⟩, q20⟩, q21⟩, q22⟩, q23⟩, q24⟩, q25⟩, q26⟩, q27⟩, by kernel_rfl⟩, q29⟩, q30⟩, q31⟩
theorem named : Tryz.prog.funcNamed "quoin/quoinlaw30.MachineStill" = some 10 := by kernel_rfl
theorem instance_ : Tryz.f10.isInstance Tryz.prog Rows.machineStillRow.origin Rows.machineStillRow.targs := of_decide_eq_true (by kernel_rfl)
theorem wrapper : Tryz.f10.isWrapper Tryz.prog Rows.machineStillRow.wrapper Rows.machineStillRow.mainSum := by
  unfold Func.isWrapper; first | (rw [if_pos (by decide +kernel)]; kernel_rfl) | (rw [if_neg (by decide +kernel)]; exact ⟨by kernel_rfl, by kernel_rfl⟩)
theorem byText : Rows.machineStillRow.wfByText (OpenSpec.ofChange Rows.machineStillSpec) = true := by kernel_rfl
theorem mainIs : Tryz.prog.mainIs = some (true, "355b8c12b33af629de6d426eda7db476e97008cc877fedcc678a68a9153aa425".toList) := by kernel_rfl
theorem looks : true = Tryz.prog.looks [] := by kernel_rfl
theorem goesBy : false = Rows.machineStillRow.goesBy Tryz.prog := by kernel_rfl
end Go.Proofs.YtoehlmiadiiimaaGreatDoor.machineStill
