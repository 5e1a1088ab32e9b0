/-
  The law MachineOn: the closed facts of its row, each for itself.
-/
import Derived.Test.YtoehlmiadiiimaaGreatDoorCards
import Derived.Test.YtoehlmiadiiimaaGreatDoorTie
import Derived.JoinedOf
import Derived.SevenTiedAt
namespace Go.Proofs.YtoehlmiadiiimaaGreatDoor.machineOn

theorem q0 : (Rows.machineOnRow.wf (OpenSpec.ofChange Rows.machineOnSpec)) = true := by kernel_rfl
theorem q1 : (laidOutB Tryz.prog) = true := by kernel_rfl
theorem q2 : (mapsRowed Tryz.prog) = true := by kernel_rfl
theorem q3 : (Tryz.f5.params.all (Tryz.prog.readableRec ·)) = true := by kernel_rfl
theorem q4 : (namedTie Tryz.prog Rows.machineOnRow.named Rows.machineOnSpec.vars) = true := by kernel_rfl
theorem q5 : ((Rows.machineOnRow.stops == [])) = true := by kernel_rfl
theorem q6 : ((Tryz.prog.stops == [])) = true := by kernel_rfl
theorem q7 : ((Rows.machineOnRow.knobs == [])) = true := by kernel_rfl
theorem q8 : ((Tryz.prog.stopKnobs == [])) = true := by kernel_rfl
theorem q9 : ((Rows.machineOnRow.inPlace == Tryz.prog.inPlace 5)) = true := by kernel_rfl
theorem q10 : ((Rows.machineOnRow.unfollowed == Tryz.prog.unfollowed 5)) = true := by kernel_rfl
theorem q11 : ((Rows.machineOnRow.recurses == Tryz.prog.recurses 5)) = true := by kernel_rfl
theorem q12 : ((Rows.machineOnRow.named == Tryz.prog.varsNamed 5)) = true := by kernel_rfl
theorem q13 : ((Rows.machineOnRow.maps == (Tryz.f5.params.toList ++ Rows.machineOnSpec.plain.varTypes Tryz.prog).any (Tryz.prog.mapsRec ·))) = true := by kernel_rfl
theorem q14 : ((Rows.machineOnRow.ifaces == (Tryz.f5.params.toList ++ Rows.machineOnSpec.plain.varTypes Tryz.prog).any (Tryz.prog.ifacesRec ·))) = true := by kernel_rfl
theorem q15 : ((Rows.machineOnRow.mapsOut == Tryz.prog.mapsAmong Tryz.f5.resultTypes.toList)) = true := by kernel_rfl
theorem q16 : ((Rows.machineOnRow.loops == (Tryz.f5.params.toList ++ Rows.machineOnSpec.plain.varTypes Tryz.prog).any (Tryz.prog.loopsFrom ·))) = true := by kernel_rfl
theorem q17 : ((Rows.machineOnRow.wideKeys == (Tryz.f5.params.toList ++ Rows.machineOnSpec.plain.varTypes Tryz.prog ++ Tryz.f5.resultTypes.toList).any (Tryz.prog.wideKeysFrom ·))) = true := by kernel_rfl
theorem q18 : (Rows.machineOnSpec.vars.all (Tryz.prog.varReadable ·)) = true := by kernel_rfl
theorem q19 : (Tryz.f5.resultTypes.all (fun t => Tryz.prog.readableRec t && decide (t < Tryz.prog.types.size))) = true := by kernel_rfl
theorem q20 : ((Rows.machineOnRow.ifacesOut == Tryz.f5.resultTypes.toList.any (Tryz.prog.ifacesRec ·))) = true := by kernel_rfl
theorem q21 : ((Rows.machineOnRow.loopsOut == Tryz.f5.resultTypes.toList.any (Tryz.prog.loopsFrom ·))) = true := by kernel_rfl
theorem q22 : ((Rows.machineOnRow.plainKeys == Tryz.prog.plainKeys)) = true := by kernel_rfl
theorem q23 : (Rows.machineOnRow.shortTexts.isNone) = true := by kernel_rfl
theorem q24 : (Tryz.prog.stopsHeard) = true := by kernel_rfl
theorem q25 : (Tryz.prog.mayEnter) = true := by kernel_rfl
theorem q26 : ((Rows.machineOnRow.lifted == Tryz.prog.liftsFinal)) = true := by kernel_rfl
theorem q27 : ((Tryz.prog.make == some Rows.machineOnRow.make)) = true := by kernel_rfl
theorem q29 : ((Rows.machineOnRow.pinned == Rows.machineOnRow.pinnedBy)) = true := by kernel_rfl
theorem q30 : ((Rows.machineOnRow.veiled == (Tryz.f5.params.toList ++ Rows.machineOnSpec.plain.varTypes Tryz.prog ++ Tryz.f5.resultTypes.toList).any (Tryz.prog.veiledRec ·))) = true := by kernel_rfl
theorem q31 : (Rows.machineOnRow.veiledFits Tryz.prog Tryz.f5.params.toList (Tryz.f5.params.toList ++ Rows.machineOnSpec.plain.varTypes Tryz.prog ++ Tryz.f5.resultTypes.toList)) = true := by kernel_rfl
theorem closed : joinedFacts Tryz.prog 5 Tryz.f5 Rows.machineOnSpec Rows.machineOnRow = true := by
  unfold joinedFacts
  simp only [Bool.and_eq_true]
  exact ⟨⟨⟨⟨⟨⟨⟨⟨⟨⟨⟨⟨⟨⟨⟨⟨⟨⟨⟨⟨⟨⟨⟨⟨⟨⟨⟨⟨⟨⟨⟨q0, q1⟩, q2⟩, q3⟩, q4⟩, q5⟩, q6⟩, q7⟩, q8⟩, q9⟩, q10⟩, q11⟩, q12⟩, q13⟩, q14⟩, q15⟩, q16⟩, q17⟩, q18⟩, q19⟩, q20⟩, q21⟩, q22⟩, q23⟩, q24⟩, q25⟩, q26⟩, q27⟩, by kernel_rfl⟩, q29⟩, q30⟩, q31⟩
theorem named : Tryz.prog.funcNamed "quoin/quoinlaw30.MachineOn" = some 5 := by kernel_rfl
theorem instance_ : Tryz.f5.isInstance Tryz.prog Rows.machineOnRow.origin Rows.machineOnRow.targs := of_decide_eq_true (by kernel_rfl)
theorem wrapper : Tryz.f5.isWrapper Tryz.prog Rows.machineOnRow.wrapper Rows.machineOnRow.mainSum := by
  unfold Func.isWrapper; first | (rw [if_pos (by decide +kernel)]; kernel_rfl) | (rw [if_neg (by decide +kernel)]; exact ⟨by kernel_rfl, by kernel_rfl⟩)
theorem byText : Rows.machineOnRow.wfByText (OpenSpec.ofChange Rows.machineOnSpec) = true := by kernel_rfl
theorem mainIs : Tryz.prog.mainIs = some (true, "355b8c12b33af629de6d426eda7db476e97008cc877fedcc678a68a9153aa425".toList) := by kernel_rfl
theorem looks : true = Tryz.prog.looks [] := by kernel_rfl
theorem goesBy : false = Rows.machineOnRow.goesBy Tryz.prog := by kernel_rfl
end Go.Proofs.YtoehlmiadiiimaaGreatDoor.machineOn
