/-
  DERIVED. GIVEN WITH THE SEED: THE CARDS: each row of YtoehlmiadiiimaaGreatDoorRows.lean that lists a variable, with what it lists TIED to the program's text (the seventh form; the later family's looks); each row that meets fmt, with fmt's text TOLD by the authors' own Lean function (tested against real Go, not proved from fmt's source: count such statements apart). THE CARD IS WHAT COUNTS. Prove the row's statement (the work); the ties are given (YtoehlmiadiiimaaGreatDoorTie.lean); close each card by the builder's one call (the guide's Derived/Test/ToyasCard.lean, 'card_holds'). Laid BY PROGRAM, IN A SANDBOX (cutbox-door.mjs). By AI agents, Wed Nov 11 2026. No macro, syntax, notation, axiom, sorry.
-/
import Derived.Test.YtoehlmiadiiimaaGreatDoorRows
import GoSem.ClaimSeven
namespace Go.Proofs.YtoehlmiadiiimaaGreatDoor
namespace Rows

/-- THE TIED CARD OF 'quoinlaw30.MachineSteps'. -/
def machineStepsCard : Claim7 := { stood := { row := machineStepsRow, standIns := [], harness := (true, "355b8c12b33af629de6d426eda7db476e97008cc877fedcc678a68a9153aa425"), looks := true }, kinds := [], alts := [], laidByText := true, laidKinds := [.widerDeep, .data, .data], laidTests := true, laidLooks := .later }
def MachineStepsCardSaid : Prop := Claim7.holds Tryz.pinned (.plain (OpenSpec.ofChange machineStepsSpec)) machineStepsCard

/-- THE TIED CARD OF 'quoinlaw30.MachineRuns'. -/
def machineRunsCard : Claim7 := { stood := { row := machineRunsRow, standIns := [], harness := (true, "355b8c12b33af629de6d426eda7db476e97008cc877fedcc678a68a9153aa425"), looks := true }, kinds := [], alts := [], laidByText := true, laidKinds := [.widerDeep, .data, .data], laidTests := true, laidLooks := .later }
def MachineRunsCardSaid : Prop := Claim7.holds Tryz.pinned (.plain (OpenSpec.ofChange machineRunsSpec)) machineRunsCard

/-- THE TIED CARD OF 'quoinlaw30.MachineOn'. -/
def machineOnCard : Claim7 := { stood := { row := machineOnRow, standIns := [], harness := (true, "355b8c12b33af629de6d426eda7db476e97008cc877fedcc678a68a9153aa425"), looks := true }, kinds := [], alts := [], laidByText := true, laidKinds := [.data, .data, .data, .data, .widerDeep, .data, .data, .sentinel, .sentinel, .widerDeep, .widerDeep, .pinned], laidTests := true, laidLooks := .later }
def MachineOnCardSaid : Prop := Claim7.holds Tryz.pinned (.plain (OpenSpec.ofChange machineOnSpec)) machineOnCard

/-- THE TIED CARD OF 'quoinlaw30.MachineLi'. -/
def machineLiCard : Claim7 := { stood := { row := machineLiRow, standIns := [], harness := (true, "355b8c12b33af629de6d426eda7db476e97008cc877fedcc678a68a9153aa425"), looks := true }, kinds := [], alts := [], laidByText := true, laidKinds := [.data, .data, .data, .data, .widerDeep, .data, .data, .sentinel, .sentinel, .widerDeep, .widerDeep, .pinned], laidTests := true, laidLooks := .later }
def MachineLiCardSaid : Prop := Claim7.holds Tryz.pinned (.plain (OpenSpec.ofChange machineLiSpec)) machineLiCard

/-- THE TIED CARD OF 'quoinlaw30.MachineMemory'. -/
def machineMemoryCard : Claim7 := { stood := { row := machineMemoryRow, standIns := [], harness := (true, "355b8c12b33af629de6d426eda7db476e97008cc877fedcc678a68a9153aa425"), looks := true }, kinds := [], alts := [], laidByText := true, laidKinds := [.data, .data, .data, .data, .widerDeep, .data, .data, .sentinel, .sentinel, .widerDeep, .widerDeep, .pinned], laidTests := true, laidLooks := .later }
def MachineMemoryCardSaid : Prop := Claim7.holds Tryz.pinned (.plain (OpenSpec.ofChange machineMemorySpec)) machineMemoryCard

/-- THE TIED CARD OF 'quoinlaw30.MachineNames'. -/
def machineNamesCard : Claim7 := { stood := { row := machineNamesRow, standIns := [], harness := (true, "355b8c12b33af629de6d426eda7db476e97008cc877fedcc678a68a9153aa425"), looks := true }, kinds := [], alts := [], laidByText := true, laidKinds := [.data, .data, .data, .data, .widerDeep, .data, .data, .sentinel, .sentinel, .widerDeep, .widerDeep, .pinned], laidTests := true, laidLooks := .later }
def MachineNamesCardSaid : Prop := Claim7.holds Tryz.pinned (.plain (OpenSpec.ofChange machineNamesSpec)) machineNamesCard

/-- THE TIED CARD OF 'quoinlaw30.MachineShort'. -/
def machineShortCard : Claim7 := { stood := { row := machineShortRow, standIns := [], harness := (true, "355b8c12b33af629de6d426eda7db476e97008cc877fedcc678a68a9153aa425"), looks := true }, kinds := [], alts := [], laidByText := true, laidKinds := [.data, .data, .data, .data, .widerDeep, .data, .data, .sentinel, .sentinel, .widerDeep, .widerDeep, .pinned], laidTests := true, laidLooks := .later }
def MachineShortCardSaid : Prop := Claim7.holds Tryz.pinned (.plain (OpenSpec.ofChange machineShortSpec)) machineShortCard

/-- THE TIED CARD OF 'quoinlaw30.MachineStill'. -/
def machineStillCard : Claim7 := { stood := { row := machineStillRow, standIns := [], harness := (true, "355b8c12b33af629de6d426eda7db476e97008cc877fedcc678a68a9153aa425"), looks := true }, kinds := [], alts := [], laidByText := true, laidKinds := [.data, .data, .data, .data, .widerDeep, .data, .data, .sentinel, .sentinel, .widerDeep, .widerDeep, .pinned], laidTests := true, laidLooks := .later }
def MachineStillCardSaid : Prop := Claim7.holds Tryz.pinned (.plain (OpenSpec.ofChange machineStillSpec)) machineStillCard

/-- THE SECOND FORM's CARD OF 'quoinlaw30.MachineSteps'. -/
def machineStepsUptoCard : Claim7 := { stood := { row := machineStepsUptoRow, standIns := [], harness := (true, "355b8c12b33af629de6d426eda7db476e97008cc877fedcc678a68a9153aa425"), looks := true }, kinds := [], alts := [], laidByText := true, laidKinds := [.widerDeep, .data, .data], laidTests := true, laidLooks := .later }
def MachineStepsUptoCardSaid : Prop := Claim7.holds Tryz.pinned (.plain (OpenSpec.upto machineStepsSpec)) machineStepsUptoCard

/-- THE SECOND FORM's CARD OF 'quoinlaw30.MachineRuns'. -/
def machineRunsUptoCard : Claim7 := { stood := { row := machineRunsUptoRow, standIns := [], harness := (true, "355b8c12b33af629de6d426eda7db476e97008cc877fedcc678a68a9153aa425"), looks := true }, kinds := [], alts := [], laidByText := true, laidKinds := [.widerDeep, .data, .data], laidTests := true, laidLooks := .later }
def MachineRunsUptoCardSaid : Prop := Claim7.holds Tryz.pinned (.plain (OpenSpec.upto machineRunsSpec)) machineRunsUptoCard

/-- THE SECOND FORM's CARD OF 'quoinlaw30.MachineOn'. -/
def machineOnUptoCard : Claim7 := { stood := { row := machineOnUptoRow, standIns := [], harness := (true, "355b8c12b33af629de6d426eda7db476e97008cc877fedcc678a68a9153aa425"), looks := true }, kinds := [], alts := [], laidByText := true, laidKinds := [.data, .data, .data, .data, .widerDeep, .data, .data, .sentinel, .sentinel, .widerDeep, .widerDeep, .pinned], laidTests := true, laidLooks := .later }
def MachineOnUptoCardSaid : Prop := Claim7.holds Tryz.pinned (.plain (OpenSpec.upto machineOnSpec)) machineOnUptoCard

/-- THE SECOND FORM's CARD OF 'quoinlaw30.MachineLi'. -/
def machineLiUptoCard : Claim7 := { stood := { row := machineLiUptoRow, standIns := [], harness := (true, "355b8c12b33af629de6d426eda7db476e97008cc877fedcc678a68a9153aa425"), looks := true }, kinds := [], alts := [], laidByText := true, laidKinds := [.data, .data, .data, .data, .widerDeep, .data, .data, .sentinel, .sentinel, .widerDeep, .widerDeep, .pinned], laidTests := true, laidLooks := .later }
def MachineLiUptoCardSaid : Prop := Claim7.holds Tryz.pinned (.plain (OpenSpec.upto machineLiSpec)) machineLiUptoCard

/-- THE SECOND FORM's CARD OF 'quoinlaw30.MachineMemory'. -/
def machineMemoryUptoCard : Claim7 := { stood := { row := machineMemoryUptoRow, standIns := [], harness := (true, "355b8c12b33af629de6d426eda7db476e97008cc877fedcc678a68a9153aa425"), looks := true }, kinds := [], alts := [], laidByText := true, laidKinds := [.data, .data, .data, .data, .widerDeep, .data, .data, .sentinel, .sentinel, .widerDeep, .widerDeep, .pinned], laidTests := true, laidLooks := .later }
def MachineMemoryUptoCardSaid : Prop := Claim7.holds Tryz.pinned (.plain (OpenSpec.upto machineMemorySpec)) machineMemoryUptoCard

/-- THE SECOND FORM's CARD OF 'quoinlaw30.MachineNames'. -/
def machineNamesUptoCard : Claim7 := { stood := { row := machineNamesUptoRow, standIns := [], harness := (true, "355b8c12b33af629de6d426eda7db476e97008cc877fedcc678a68a9153aa425"), looks := true }, kinds := [], alts := [], laidByText := true, laidKinds := [.data, .data, .data, .data, .widerDeep, .data, .data, .sentinel, .sentinel, .widerDeep, .widerDeep, .pinned], laidTests := true, laidLooks := .later }
def MachineNamesUptoCardSaid : Prop := Claim7.holds Tryz.pinned (.plain (OpenSpec.upto machineNamesSpec)) machineNamesUptoCard

/-- THE SECOND FORM's CARD OF 'quoinlaw30.MachineShort'. -/
def machineShortUptoCard : Claim7 := { stood := { row := machineShortUptoRow, standIns := [], harness := (true, "355b8c12b33af629de6d426eda7db476e97008cc877fedcc678a68a9153aa425"), looks := true }, kinds := [], alts := [], laidByText := true, laidKinds := [.data, .data, .data, .data, .widerDeep, .data, .data, .sentinel, .sentinel, .widerDeep, .widerDeep, .pinned], laidTests := true, laidLooks := .later }
def MachineShortUptoCardSaid : Prop := Claim7.holds Tryz.pinned (.plain (OpenSpec.upto machineShortSpec)) machineShortUptoCard

/-- THE SECOND FORM's CARD OF 'quoinlaw30.MachineStill'. -/
def machineStillUptoCard : Claim7 := { stood := { row := machineStillUptoRow, standIns := [], harness := (true, "355b8c12b33af629de6d426eda7db476e97008cc877fedcc678a68a9153aa425"), looks := true }, kinds := [], alts := [], laidByText := true, laidKinds := [.data, .data, .data, .data, .widerDeep, .data, .data, .sentinel, .sentinel, .widerDeep, .widerDeep, .pinned], laidTests := true, laidLooks := .later }
def MachineStillUptoCardSaid : Prop := Claim7.holds Tryz.pinned (.plain (OpenSpec.upto machineStillSpec)) machineStillUptoCard
end Rows
end Go.Proofs.YtoehlmiadiiimaaGreatDoor
