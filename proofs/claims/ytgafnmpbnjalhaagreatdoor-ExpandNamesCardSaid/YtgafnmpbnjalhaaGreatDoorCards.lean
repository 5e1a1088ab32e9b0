/-
  DERIVED. GIVEN WITH THE SEED: THE CARDS: each row of YtgafnmpbnjalhaaGreatDoorRows.lean that lists a variable, with what it lists TIED to the program's text (the seventh form; the later family's looks); each row that meets fmt, with fmt's text TOLD by the authors' own Lean function (tested against real Go, not proved from fmt's source: count such statements apart). THE CARD IS WHAT COUNTS. Prove the row's statement (the work); the ties are given (YtgafnmpbnjalhaaGreatDoorTie.lean); close each card by the builder's one call (the guide's Derived/Test/ToyasCard.lean, 'card_holds'). Laid BY PROGRAM, IN A SANDBOX (cutbox-door.mjs). By AI agents, Wed Nov 11 2026. No macro, syntax, notation, axiom, sorry.
-/
import Derived.Test.YtgafnmpbnjalhaaGreatDoorRows
import GoSem.ClaimSeven
namespace Go.Proofs.YtgafnmpbnjalhaaGreatDoor
namespace Rows

/-- THE TIED CARD OF 'quoinlaw29.ShowNames'. -/
def showNamesCard : Claim7 := { stood := { row := showNamesRow, standIns := [], harness := (true, "2885226db672d70b4f26c666a6394872804ff6fc1eae1133710d319f09b38a20"), looks := true }, kinds := [], alts := [], laidByText := true, laidKinds := [.data, .data, .data, .widerDeep, .data, .data, .sentinel, .sentinel, .widerDeep, .widerDeep, .data], laidTests := true, laidLooks := .later }
def ShowNamesCardSaid : Prop := Claim7.holds Tryz.pinned (.plain (OpenSpec.ofChange showNamesSpec)) showNamesCard

/-- THE TIED CARD OF 'quoinlaw19.ExpandNames'. -/
def expandNamesCard : Claim7 := { stood := { row := expandNamesRow, standIns := [], harness := (true, "2885226db672d70b4f26c666a6394872804ff6fc1eae1133710d319f09b38a20"), looks := true }, kinds := [], alts := [], laidByText := true, laidKinds := [.data, .data, .data, .data, .widerDeep, .data, .sentinel, .sentinel, .widerDeep, .widerDeep, .pinned], laidTests := true, laidLooks := .later }
def ExpandNamesCardSaid : Prop := Claim7.holds Tryz.pinned (.plain (OpenSpec.ofChange expandNamesSpec)) expandNamesCard

/-- THE SECOND FORM's CARD OF 'quoinlaw29.ShowNames'. -/
def showNamesUptoCard : Claim7 := { stood := { row := showNamesUptoRow, standIns := [], harness := (true, "2885226db672d70b4f26c666a6394872804ff6fc1eae1133710d319f09b38a20"), looks := true }, kinds := [], alts := [], laidByText := true, laidKinds := [.data, .data, .data, .widerDeep, .data, .data, .sentinel, .sentinel, .widerDeep, .widerDeep, .data], laidTests := true, laidLooks := .later }
def ShowNamesUptoCardSaid : Prop := Claim7.holds Tryz.pinned (.plain (OpenSpec.upto showNamesSpec)) showNamesUptoCard

/-- THE SECOND FORM's CARD OF 'quoinlaw19.ExpandNames'. -/
def expandNamesUptoCard : Claim7 := { stood := { row := expandNamesUptoRow, standIns := [], harness := (true, "2885226db672d70b4f26c666a6394872804ff6fc1eae1133710d319f09b38a20"), looks := true }, kinds := [], alts := [], laidByText := true, laidKinds := [.data, .data, .data, .data, .widerDeep, .data, .sentinel, .sentinel, .widerDeep, .widerDeep, .pinned], laidTests := true, laidLooks := .later }
def ExpandNamesUptoCardSaid : Prop := Claim7.holds Tryz.pinned (.plain (OpenSpec.upto expandNamesSpec)) expandNamesUptoCard
end Rows
end Go.Proofs.YtgafnmpbnjalhaaGreatDoor
