/-
  The law MachineMemory: the closed facts of its row, each for itself.
-/
import Derived.Test.YtoehlmiadiiimaaGreatDoorCards
import Derived.Test.YtoehlmiadiiimaaGreatDoorTie
import Derived.JoinedOf
import Derived.SevenTiedAt
namespace Go.Proofs.YtoehlmiadiiimaaGreatDoor.machineMemory

theorem q0 : (Rows.machineMemoryRow.wf (OpenSpec.ofChange Rows.machineMemorySpec)) = true := by kernel_rfl
theorem q1 : (laidOutB Tryz.prog) = true := by kernel_rfl
theorem q2 : (mapsRowed Tryz.prog) = true := by kernel_rfl
theorem q3 : (Tryz.f7.params.all (Tryz.prog.readableRec ·)) = true := by kernel_rfl
theorem q4 : (namedTie Tryz.prog Rows.machineMemoryRow.named Rows.machineMemorySpec.vars) = true := by kernel_rfl
theorem q5 : ((Rows.machineMemoryRow.stops == [])) = true := by kernel_rfl
theorem q6 : ((Tryz.prog.stops == [])) = true := by kernel_rfl
theorem q7 : ((Rows.machineMemoryRow.knobs == [])) = true := by kernel_rfl
theorem q8 : ((Tryz.prog.stopKnobs == [])) = true := by kernel_rfl
theorem q9 : ((Rows.machineMemoryRow.inPlace == Tryz.prog.inPlace 7)) = true := by kernel_rfl
theorem q10 : ((Rows.machineMemoryRow.unfollowed == Tryz.prog.unfollowed 7)) = true := by kernel_rfl
theorem q11 : ((Rows.machineMemoryRow.recurses == Tryz.prog.recurses 7)) = true := by kernel_rfl
theorem q12 : ((Rows.machineMemoryRow.named == Tryz.prog.varsNamed 7)) = true := by kernel_rfl
theorem q13 : ((Rows.machineMemoryRow.maps == (Tryz.f7.params.toList ++ Rows.machineMemorySpec.plain.varTypes Tryz.prog).any (Tryz.prog.mapsRec ·))) = true := by kernel_rfl
theorem q14 : ((Rows.machineMemoryRow.ifaces == (Tryz.f7.params.toList ++ Rows.machineMemorySpec.plain.varTypes Tryz.prog).any (Tryz.prog.ifacesRec ·))) = true := by kernel_rfl
theorem q15 : ((Rows.machineMemoryRow.mapsOut == Tryz.prog.mapsAmong Tryz.f7.resultTypes.toList)) = true := by kernel_rfl
theorem q16 : ((Rows.machineMemoryRow.loops == (Tryz.f7.params.toList ++ Rows.machineMemorySpec.plain.varTypes Tryz.prog).any (Tryz.prog.loopsFrom ·))) = true := by kernel_rfl
theorem q17 : ((Rows.machineMemoryRow.wideKeys == (Tryz.f7.params.toList ++ Rows.machineMemorySpec.plain.varTypes Tryz.prog ++ Tryz.f7.resultTypes.toList).any (Tryz.prog.wideKeysFrom ·))) = true := by kernel_rfl
theorem q18 : (Rows.machineMemorySpec.vars.all (Tryz.prog.varReadable ·)) = true := by kernel_rfl
theorem q19 : (Tryz.f7.resultTypes.all (fun t => Tryz.prog.readableRec t && decide (t < Tryz.prog.types.size))) = true := by kernel_rfl
theorem q20 : ((Rows.machineMemoryRow.ifacesOut == Tryz.f7.resultTypes.toList.any (Tryz.prog.ifacesRec ·))) = true := by kernel_rfl
theorem q21 : ((Rows.machineMemoryRow.loopsOut == Tryz.f7.resultTypes.toList.any (Tryz.prog.loopsFrom ·))) = true := by kernel_rfl
theorem q22 : ((Rows.machineMemoryRow.plainKeys == Tryz.prog.plainKeys)) = true := by kernel_rfl
theorem q23 : (Rows.machineMemoryRow.shortTexts.isNone) = true := by kernel_rfl
theorem q24 : (Tryz.prog.stopsHeard) = true := by kernel_rfl
theorem q25 : (Tryz.prog.mayEnter) = true := by kernel_rfl
theorem q26 : ((Rows.machineMemoryRow.lifted == Tryz.prog.liftsFinal)) = true := by kernel_rfl
theorem q27 : ((Tryz.prog.make == some Rows.machineMemoryRow.make)) = true := by kernel_rfl
theorem q29 : ((Rows.machineMemoryRow.pinned == Rows.machineMemoryRow.pinnedBy)) = true := by kernel_rfl
theorem q30 : ((Rows.machineMemoryRow.veiled == (Tryz.f7.params.toList ++ Rows.machineMemorySpec.plain.varTypes Tryz.prog ++ Tryz.f7.resultTypes.toList).any (Tryz.prog.veiledRec ·))) = true := by kernel_rfl
theorem q31 : (Rows.machineMemoryRow.veiledFits Tryz.prog Tryz.f7.params.toList (Tryz.f7.params.toList ++ Rows.machineMemorySpec.plain.varTypes Tryz.prog ++ Tryz.f7.resultTypes.toList)) = true := by kernel_rfl
theorem closed : joinedFacts Tryz.prog 7 Tryz.f7 Rows.machineMemorySpec Rows.machineMemoryRow = true := by
  unfold joinedFacts
  simp only [Bool.and_eq_true]
  exact ⟨⟨⟨⟨⟨⟨⟨⟨⟨⟨⟨⟨⟨⟨⟨⟨⟨⟨⟨⟨⟨⟨⟨⟨⟨⟨⟨⟨⟨⟨⟨q0, q1⟩, q2⟩, q3⟩, q4⟩, q5⟩, q6⟩, q7⟩, q8⟩, q9⟩, q10⟩, q11⟩, q12⟩, q13⟩, q14⟩, q15⟩, q16⟩, q17⟩, q18⟩, q19⟩, q20⟩, q21⟩, q22⟩, q23⟩, q24⟩, q25⟩, q26⟩, q27⟩, by kernel_rfl⟩, q29⟩, q30⟩, q31⟩
theorem named : Tryz.prog.funcNamed "quoin/quoinlaw30.MachineMemory" = some 7 := by kernel_rfl
theorem instance_ : Tryz.f7.isInstance Tryz.prog Rows.machineMemoryRow.origin Rows.machineMemoryRow.targs := of_decide_eq_true (by kernel_rfl)
theorem wrapper : Tryz.f7.isWrapper Tryz.prog Rows.machineMemoryRow.wrapper Rows.machineMemoryRow.mainSum := by
  unfold Func.isWrapper; first | (rw [if_pos (by decide +kernel)]; kernel_rfl) | (rw [if_neg (by decide +kernel)]; exact ⟨by kernel_rfl, by kernel_rfl⟩)
theorem byText : Rows.machineMemoryRow.wfByText (OpenSpec.ofChange Rows.machineMemorySpec) = true := by kernel_rfl
theorem mainIs : Tryz.prog.mainIs = some (true, "355b8c12b33af629de6d426eda7db476e97008cc877fedcc678a68a9153aa425".toList) := by kernel_rfl
theorem looks : true = Tryz.prog.looks [] := by kernel_rfl
theorem goesBy : false = Rows.machineMemoryRow.goesBy Tryz.prog := by kernel_rfl
end Go.Proofs.YtoehlmiadiiimaaGreatDoor.machineMemory
