/-
  The law MachineNames: the closed facts of its row, each for itself.
-/
import Derived.Test.YtoehlmiadiiimaaGreatDoorCards
import Derived.Test.YtoehlmiadiiimaaGreatDoorTie
import Derived.JoinedOf
import Derived.SevenTiedAt
namespace Go.Proofs.YtoehlmiadiiimaaGreatDoor.machineNames

theorem q0 : (Rows.machineNamesRow.wf (OpenSpec.ofChange Rows.machineNamesSpec)) = true := by kernel_rfl
theorem q1 : (laidOutB Tryz.prog) = true := by kernel_rfl
theorem q2 : (mapsRowed Tryz.prog) = true := by kernel_rfl
theorem q3 : (Tryz.f8.params.all (Tryz.prog.readableRec ·)) = true := by kernel_rfl
theorem q4 : (namedTie Tryz.prog Rows.machineNamesRow.named Rows.machineNamesSpec.vars) = true := by kernel_rfl
theorem q5 : ((Rows.machineNamesRow.stops == [])) = true := by kernel_rfl
theorem q6 : ((Tryz.prog.stops == [])) = true := by kernel_rfl
theorem q7 : ((Rows.machineNamesRow.knobs == [])) = true := by kernel_rfl
theorem q8 : ((Tryz.prog.stopKnobs == [])) = true := by kernel_rfl
theorem q9 : ((Rows.machineNamesRow.inPlace == Tryz.prog.inPlace 8)) = true := by kernel_rfl
theorem q10 : ((Rows.machineNamesRow.unfollowed == Tryz.prog.unfollowed 8)) = true := by kernel_rfl
theorem q11 : ((Rows.machineNamesRow.recurses == Tryz.prog.recurses 8)) = true := by kernel_rfl
theorem q12 : ((Rows.machineNamesRow.named == Tryz.prog.varsNamed 8)) = true := by kernel_rfl
theorem q13 : ((Rows.machineNamesRow.maps == (Tryz.f8.params.toList ++ Rows.machineNamesSpec.plain.varTypes Tryz.prog).any (Tryz.prog.mapsRec ·))) = true := by kernel_rfl
theorem q14 : ((Rows.machineNamesRow.ifaces == (Tryz.f8.params.toList ++ Rows.machineNamesSpec.plain.varTypes Tryz.prog).any (Tryz.prog.ifacesRec ·))) = true := by kernel_rfl
theorem q15 : ((Rows.machineNamesRow.mapsOut == Tryz.prog.mapsAmong Tryz.f8.resultTypes.toList)) = true := by kernel_rfl
theorem q16 : ((Rows.machineNamesRow.loops == (Tryz.f8.params.toList ++ Rows.machineNamesSpec.plain.varTypes Tryz.prog).any (Tryz.prog.loopsFrom ·))) = true := by kernel_rfl
theorem q17 : ((Rows.machineNamesRow.wideKeys == (Tryz.f8.params.toList ++ Rows.machineNamesSpec.plain.varTypes Tryz.prog ++ Tryz.f8.resultTypes.toList).any (Tryz.prog.wideKeysFrom ·))) = true := by kernel_rfl
theorem q18 : (Rows.machineNamesSpec.vars.all (Tryz.prog.varReadable ·)) = true := by kernel_rfl
theorem q19 : (Tryz.f8.resultTypes.all (fun t => Tryz.prog.readableRec t && decide (t < Tryz.prog.types.size))) = true := by kernel_rfl
theorem q20 : ((Rows.machineNamesRow.ifacesOut == Tryz.f8.resultTypes.toList.any (Tryz.prog.ifacesRec ·))) = true := by kernel_rfl
theorem q21 : ((Rows.machineNamesRow.loopsOut == Tryz.f8.resultTypes.toList.any (Tryz.prog.loopsFrom ·))) = true := by kernel_rfl
theorem q22 : ((Rows.machineNamesRow.plainKeys == Tryz.prog.plainKeys)) = true := by kernel_rfl
theorem q23 : (Rows.machineNamesRow.shortTexts.isNone) = true := by kernel_rfl
theorem q24 : (Tryz.prog.stopsHeard) = true := by kernel_rfl
theorem q25 : (Tryz.prog.mayEnter) = true := by kernel_rfl
theorem q26 : ((Rows.machineNamesRow.lifted == Tryz.prog.liftsFinal)) = true := by kernel_rfl
theorem q27 : ((Tryz.prog.make == some Rows.machineNamesRow.make)) = true := by kernel_rfl
theorem q29 : ((Rows.machineNamesRow.pinned == Rows.machineNamesRow.pinnedBy)) = true := by kernel_rfl
theorem q30 : ((Rows.machineNamesRow.veiled == (Tryz.f8.params.toList ++ Rows.machineNamesSpec.plain.varTypes Tryz.prog ++ Tryz.f8.resultTypes.toList).any (Tryz.prog.veiledRec ·))) = true := by kernel_rfl
theorem q31 : (Rows.machineNamesRow.veiledFits Tryz.prog Tryz.f8.params.toList (Tryz.f8.params.toList ++ Rows.machineNamesSpec.plain.varTypes Tryz.prog ++ Tryz.f8.resultTypes.toList)) = true := by kernel_rfl
theorem closed : joinedFacts Tryz.prog 8 Tryz.f8 Rows.machineNamesSpec Rows.machineNamesRow = true := by
  unfold joinedFacts
  simp only [Bool.and_eq_true]
  exact ⟨⟨⟨⟨⟨⟨⟨⟨⟨⟨⟨⟨⟨⟨⟨⟨⟨⟨⟨⟨⟨⟨⟨⟨⟨⟨⟨⟨⟨⟨⟨q0, q1⟩, q2⟩, q3⟩, q4⟩, q5⟩, q6⟩, q7⟩, q8⟩, q9⟩, q10⟩, q11⟩, q12⟩, q13⟩, q14⟩, q15⟩, q16⟩, q17⟩, q18⟩, q19⟩, q20⟩, q21⟩, q22⟩, q23⟩, q24⟩, q25⟩, q26⟩, q27⟩, by kernel_rfl⟩, q29⟩, q30⟩, q31⟩
theorem named : Tryz.prog.funcNamed "quoin/quoinlaw30.MachineNames" = some 8 := by kernel_rfl
theorem instance_ : Tryz.f8.isInstance Tryz.prog Rows.machineNamesRow.origin Rows.machineNamesRow.targs := of_decide_eq_true (by kernel_rfl)
theorem wrapper : Tryz.f8.isWrapper Tryz.prog Rows.machineNamesRow.wrapper Rows.machineNamesRow.mainSum := by
  unfold Func.isWrapper; first | (rw [if_pos (by decide +kernel)]; kernel_rfl) | (rw [if_neg (by decide +kernel)]; exact ⟨by kernel_rfl, by kernel_rfl⟩)
theorem byText : Rows.machineNamesRow.wfByText (OpenSpec.ofChange Rows.machineNamesSpec) = true := by kernel_rfl
theorem mainIs : Tryz.prog.mainIs = some (true, "355b8c12b33af629de6d426eda7db476e97008cc877fedcc678a68a9153aa425".toList) := by kernel_rfl
theorem looks : true = Tryz.prog.looks [] := by kernel_rfl
theorem goesBy : false = Rows.machineNamesRow.goesBy Tryz.prog := by kernel_rfl
end Go.Proofs.YtoehlmiadiiimaaGreatDoor.machineNames
