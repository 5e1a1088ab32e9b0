/-
  The law MachineShort: the closed facts of its row, each for itself.
-/
import Derived.Test.YtoehlmiadiiimaaGreatDoorCards
import Derived.Test.YtoehlmiadiiimaaGreatDoorTie
import Derived.JoinedOf
import Derived.SevenTiedAt
namespace Go.Proofs.YtoehlmiadiiimaaGreatDoor.machineShort

theorem q0 : (Rows.machineShortRow.wf (OpenSpec.ofChange Rows.machineShortSpec)) = true := by kernel_rfl
theorem q1 : (laidOutB Tryz.prog) = true := by kernel_rfl
theorem q2 : (mapsRowed Tryz.prog) = true := by kernel_rfl
theorem q3 : (Tryz.f9.params.all (Tryz.prog.readableRec ·)) = true := by kernel_rfl
theorem q4 : (namedTie Tryz.prog Rows.machineShortRow.named Rows.machineShortSpec.vars) = true := by kernel_rfl
theorem q5 : ((Rows.machineShortRow.stops == [])) = true := by kernel_rfl
theorem q6 : ((Tryz.prog.stops == [])) = true := by kernel_rfl
theorem q7 : ((Rows.machineShortRow.knobs == [])) = true := by kernel_rfl
theorem q8 : ((Tryz.prog.stopKnobs == [])) = true := by kernel_rfl
theorem q9 : ((Rows.machineShortRow.inPlace == Tryz.prog.inPlace 9)) = true := by kernel_rfl
theorem q10 : ((Rows.machineShortRow.unfollowed == Tryz.prog.unfollowed 9)) = true := by kernel_rfl
theorem q11 : ((Rows.machineShortRow.recurses == Tryz.prog.recurses 9)) = true := by kernel_rfl
theorem q12 : ((Rows.machineShortRow.named == Tryz.prog.varsNamed 9)) = true := by kernel_rfl
theorem q13 : ((Rows.machineShortRow.maps == (Tryz.f9.params.toList ++ Rows.machineShortSpec.plain.varTypes Tryz.prog).any (Tryz.prog.mapsRec ·))) = true := by kernel_rfl
theorem q14 : ((Rows.machineShortRow.ifaces == (Tryz.f9.params.toList ++ Rows.machineShortSpec.plain.varTypes Tryz.prog).any (Tryz.prog.ifacesRec ·))) = true := by kernel_rfl
theorem q15 : ((Rows.machineShortRow.mapsOut == Tryz.prog.mapsAmong Tryz.f9.resultTypes.toList)) = true := by kernel_rfl
theorem q16 : ((Rows.machineShortRow.loops == (Tryz.f9.params.toList ++ Rows.machineShortSpec.plain.varTypes Tryz.prog).any (Tryz.prog.loopsFrom ·))) = true := by kernel_rfl
theorem q17 : ((Rows.machineShortRow.wideKeys == (Tryz.f9.params.toList ++ Rows.machineShortSpec.plain.varTypes Tryz.prog ++ Tryz.f9.resultTypes.toList).any (Tryz.prog.wideKeysFrom ·))) = true := by kernel_rfl
theorem q18 : (Rows.machineShortSpec.vars.all (Tryz.prog.varReadable ·)) = true := by kernel_rfl
theorem q19 : (Tryz.f9.resultTypes.all (fun t => Tryz.prog.readableRec t && decide (t < Tryz.prog.types.size))) = true := by kernel_rfl
theorem q20 : ((Rows.machineShortRow.ifacesOut == Tryz.f9.resultTypes.toList.any (Tryz.prog.ifacesRec ·))) = true := by kernel_rfl
theorem q21 : ((Rows.machineShortRow.loopsOut == Tryz.f9.resultTypes.toList.any (Tryz.prog.loopsFrom ·))) = true := by kernel_rfl
theorem q22 : ((Rows.machineShortRow.plainKeys == Tryz.prog.plainKeys)) = true := by kernel_rfl
theorem q23 : (Rows.machineShortRow.shortTexts.isNone) = true := by kernel_rfl
theorem q24 : (Tryz.prog.stopsHeard) = true := by kernel_rfl
theorem q25 : (Tryz.prog.mayEnter) = true := by kernel_rfl
theorem q26 : ((Rows.machineShortRow.lifted == Tryz.prog.liftsFinal)) = true := by kernel_rfl
theorem q27 : ((Tryz.prog.make == some Rows.machineShortRow.make)) = true := by kernel_rfl
theorem q29 : ((Rows.machineShortRow.pinned == Rows.machineShortRow.pinnedBy)) = true := by kernel_rfl
theorem q30 : ((Rows.machineShortRow.veiled == (Tryz.f9.params.toList ++ Rows.machineShortSpec.plain.varTypes Tryz.prog ++ Tryz.f9.resultTypes.toList).any (Tryz.prog.veiledRec ·))) = true := by kernel_rfl
theorem q31 : (Rows.machineShortRow.veiledFits Tryz.prog Tryz.f9.params.toList (Tryz.f9.params.toList ++ Rows.machineShortSpec.plain.varTypes Tryz.prog ++ Tryz.f9.resultTypes.toList)) = true := by kernel_rfl
theorem closed : joinedFacts Tryz.prog 9 Tryz.f9 Rows.machineShortSpec Rows.machineShortRow = true := by
  unfold joinedFacts
  simp only [Bool.and_eq_true]
  exact ⟨⟨⟨⟨⟨⟨⟨⟨⟨⟨⟨⟨⟨⟨⟨⟨⟨⟨⟨⟨⟨⟨⟨⟨⟨⟨⟨⟨⟨⟨⟨q0, q1⟩, q2⟩, q3⟩, q4⟩, q5⟩, q6⟩, q7⟩, q8⟩, q9⟩, q10⟩, q11⟩, q12⟩, q13⟩, q14⟩, q15⟩, q16⟩, q17⟩, q18⟩, q19⟩, q20⟩, q21⟩, q22⟩, q23⟩, q24⟩, q25⟩, q26⟩, q27⟩, by kernel_rfl⟩, q29⟩, q30⟩, q31⟩
theorem named : Tryz.prog.funcNamed "quoin/quoinlaw30.MachineShort" = some 9 := by kernel_rfl
theorem instance_ : Tryz.f9.isInstance Tryz.prog Rows.machineShortRow.origin Rows.machineShortRow.targs := of_decide_eq_true (by kernel_rfl)
theorem wrapper : Tryz.f9.isWrapper Tryz.prog Rows.machineShortRow.wrapper Rows.machineShortRow.mainSum := by
  unfold Func.isWrapper; first | (rw [if_pos (by decide +kernel)]; kernel_rfl) | (rw [if_neg (by decide +kernel)]; exact ⟨by kernel_rfl, by kernel_rfl⟩)
theorem byText : Rows.machineShortRow.wfByText (OpenSpec.ofChange Rows.machineShortSpec) = true := by kernel_rfl
theorem mainIs : Tryz.prog.mainIs = some (true, "355b8c12b33af629de6d426eda7db476e97008cc877fedcc678a68a9153aa425".toList) := by kernel_rfl
theorem looks : true = Tryz.prog.looks [] := by kernel_rfl
theorem goesBy : false = Rows.machineShortRow.goesBy Tryz.prog := by kernel_rfl
end Go.Proofs.YtoehlmiadiiimaaGreatDoor.machineShort
