/-
  DERIVED. GIVEN WITH THE SEED: THE CARDS: each row of YtklenhohljeacaaDoorRows.lean that lists a variable, with what it lists TIED to the program's text (the seventh form; the later family's looks); each row that meets fmt, with fmt's text TOLD by the authors' own Lean function (tested against real Go, not proved from fmt's source: count such statements apart). THE CARD IS WHAT COUNTS. Prove the row's statement (the work); the ties are given (YtklenhohljeacaaDoorTie.lean); close each card by the builder's one call (the guide's Derived/Test/ToyasCard.lean, 'card_holds'). Laid BY PROGRAM, IN A SANDBOX (cutbox-door.mjs). By AI agents, Wed Nov 11 2026. No macro, syntax, notation, axiom, sorry.
-/
import Derived.Test.YtklenhohljeacaaDoorRows
import GoSem.ClaimSeven
namespace Go.Proofs.YtklenhohljeacaaDoor
namespace Rows

/-- THE TIED CARD OF 'quoinlaw06.CdecNames'. -/
def cdecNamesCard : Claim7 := { stood := { row := cdecNamesRow, standIns := [], harness := (true, "f41219e7abb2d123d5dea42e1d47f6cf64808de5f50441e04ed0b522c1daf695"), looks := false }, kinds := [], alts := [], laidByText := true, laidKinds := [.widerDeep, .data], laidTests := true, laidLooks := .later }
def CdecNamesCardSaid : Prop := Claim7.holds Tryd.pinned (.plain (OpenSpec.ofChange cdecNamesSpec)) cdecNamesCard

/-- THE TIED CARD OF 'quoinlaw06.CdecTells'. -/
def cdecTellsCard : Claim7 := { stood := { row := cdecTellsRow, standIns := [], harness := (true, "f41219e7abb2d123d5dea42e1d47f6cf64808de5f50441e04ed0b522c1daf695"), looks := false }, kinds := [], alts := [], laidByText := true, laidKinds := [.widerDeep, .data], laidTests := true, laidLooks := .later }
def CdecTellsCardSaid : Prop := Claim7.holds Tryd.pinned (.plain (OpenSpec.ofChange cdecTellsSpec)) cdecTellsCard

/-- THE TIED CARD OF 'quoinlaw06.CdecBack'. -/
def cdecBackCard : Claim7 := { stood := { row := cdecBackRow, standIns := [], harness := (true, "f41219e7abb2d123d5dea42e1d47f6cf64808de5f50441e04ed0b522c1daf695"), looks := false }, kinds := [], alts := [], laidByText := true, laidKinds := [.widerDeep, .data], laidTests := true, laidLooks := .later }
def CdecBackCardSaid : Prop := Claim7.holds Tryd.pinned (.plain (OpenSpec.ofChange cdecBackSpec)) cdecBackCard

/-- THE TIED CARD OF 'quoinlaw06.CdecSize'. -/
def cdecSizeCard : Claim7 := { stood := { row := cdecSizeRow, standIns := [], harness := (true, "f41219e7abb2d123d5dea42e1d47f6cf64808de5f50441e04ed0b522c1daf695"), looks := false }, kinds := [], alts := [], laidByText := true, laidKinds := [.widerDeep, .data], laidTests := true, laidLooks := .later }
def CdecSizeCardSaid : Prop := Claim7.holds Tryd.pinned (.plain (OpenSpec.ofChange cdecSizeSpec)) cdecSizeCard

/-- THE TIED CARD OF 'quoinlaw06.CdecShort'. -/
def cdecShortCard : Claim7 := { stood := { row := cdecShortRow, standIns := [], harness := (true, "f41219e7abb2d123d5dea42e1d47f6cf64808de5f50441e04ed0b522c1daf695"), looks := false }, kinds := [], alts := [], laidByText := true, laidKinds := [.widerDeep, .data], laidTests := true, laidLooks := .later }
def CdecShortCardSaid : Prop := Claim7.holds Tryd.pinned (.plain (OpenSpec.ofChange cdecShortSpec)) cdecShortCard

/-- THE SECOND FORM's CARD OF 'quoinlaw06.CdecNames'. -/
def cdecNamesUptoCard : Claim7 := { stood := { row := cdecNamesUptoRow, standIns := [], harness := (true, "f41219e7abb2d123d5dea42e1d47f6cf64808de5f50441e04ed0b522c1daf695"), looks := false }, kinds := [], alts := [], laidByText := true, laidKinds := [.widerDeep, .data], laidTests := true, laidLooks := .later }
def CdecNamesUptoCardSaid : Prop := Claim7.holds Tryd.pinned (.plain (OpenSpec.upto cdecNamesSpec)) cdecNamesUptoCard

/-- THE SECOND FORM's CARD OF 'quoinlaw06.CdecTells'. -/
def cdecTellsUptoCard : Claim7 := { stood := { row := cdecTellsUptoRow, standIns := [], harness := (true, "f41219e7abb2d123d5dea42e1d47f6cf64808de5f50441e04ed0b522c1daf695"), looks := false }, kinds := [], alts := [], laidByText := true, laidKinds := [.widerDeep, .data], laidTests := true, laidLooks := .later }
def CdecTellsUptoCardSaid : Prop := Claim7.holds Tryd.pinned (.plain (OpenSpec.upto cdecTellsSpec)) cdecTellsUptoCard

/-- THE SECOND FORM's CARD OF 'quoinlaw06.CdecBack'. -/
def cdecBackUptoCard : Claim7 := { stood := { row := cdecBackUptoRow, standIns := [], harness := (true, "f41219e7abb2d123d5dea42e1d47f6cf64808de5f50441e04ed0b522c1daf695"), looks := false }, kinds := [], alts := [], laidByText := true, laidKinds := [.widerDeep, .data], laidTests := true, laidLooks := .later }
def CdecBackUptoCardSaid : Prop := Claim7.holds Tryd.pinned (.plain (OpenSpec.upto cdecBackSpec)) cdecBackUptoCard

/-- THE SECOND FORM's CARD OF 'quoinlaw06.CdecSize'. -/
def cdecSizeUptoCard : Claim7 := { stood := { row := cdecSizeUptoRow, standIns := [], harness := (true, "f41219e7abb2d123d5dea42e1d47f6cf64808de5f50441e04ed0b522c1daf695"), looks := false }, kinds := [], alts := [], laidByText := true, laidKinds := [.widerDeep, .data], laidTests := true, laidLooks := .later }
def CdecSizeUptoCardSaid : Prop := Claim7.holds Tryd.pinned (.plain (OpenSpec.upto cdecSizeSpec)) cdecSizeUptoCard

/-- THE SECOND FORM's CARD OF 'quoinlaw06.CdecShort'. -/
def cdecShortUptoCard : Claim7 := { stood := { row := cdecShortUptoRow, standIns := [], harness := (true, "f41219e7abb2d123d5dea42e1d47f6cf64808de5f50441e04ed0b522c1daf695"), looks := false }, kinds := [], alts := [], laidByText := true, laidKinds := [.widerDeep, .data], laidTests := true, laidLooks := .later }
def CdecShortUptoCardSaid : Prop := Claim7.holds Tryd.pinned (.plain (OpenSpec.upto cdecShortSpec)) cdecShortUptoCard
end Rows
end Go.Proofs.YtklenhohljeacaaDoor
