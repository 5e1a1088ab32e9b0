/-
  No cell of these rows narrows 'for every input' (looked for: loops, veiled, ifaces, maps, wideKeys, modest, calm, conditions, laid).
  DERIVED. THE GIVEN ROWS OF THIS SEAT. 3 by the template 'for every input the law returns true; each argument reads behind the call as it read before'; 0 by the template 'total and deterministic' (their statements: YtklenhohljeacaaTotals.lean).
  GIVEN WITH THE SEED: the statements are not yours to turn. If you find one false, say at which input.
  Laid BY PROGRAM, IN A SANDBOX (cutbox-rows.mjs): the forced cells as the released guide's own fill.sh prints them over the translation 49e72ddb9e557dff… (all of the seat's roots in one cut). By AI agents, Wed Nov 11 2026. No macro, syntax, notation, axiom, sorry.
-/
import Derived.Test.YtklenhohljeacaaChecked
import GoSem.Claim
import GoSem.ClaimJoined
import GoSem.ClaimMapViews
import Derived.JoinedTies
import Derived.KernelRfl
namespace Go.Proofs.Ytklenhohljeacaa
/- THE CELL 'sum', in the pinned program and in every row, IS THE sha256 OF THE DUMP (.gsa) THAT YtklenhohljeacaaProg.lean LOADS. Nothing in Lean hashes anything: it is a label: what it is worth is what the hold of that sum in a sandbox is worth. -/
noncomputable def Try.pinned : Pinned := { name := "ytklenhohljeacaa", sum := "49e72ddb9e557dff7b6a08b1a32ae0b3e38e951d6f87e3802fffc3f57057064b", checked := Try.checked }
namespace Rows
def none {H : Type} : Left H := { results := [], args := [] }

/-- 'quoinlaw05.CencNames': WHATEVER THE INPUT: true; the input reads as it did. -/
def cencNamesSpec : ChangeSpec := { name := "cencNames", fn := fun _ => fun
  | [] => { results := [.lit (.bool true)], args := [] }
  | _ => none }
def cencNamesRow : OpenClaim := { program := "ytklenhohljeacaa", sum := "49e72ddb9e557dff7b6a08b1a32ae0b3e38e951d6f87e3802fffc3f57057064b", func := "quoin/quoinlaw05.CencNames", spec := "cencNames", apart := false }
def CencNamesSaid : Prop := cencNamesRow.holds Try.pinned (OpenSpec.ofChange cencNamesSpec)

/-- ITS FALSE NEIGHBOUR: 'it returns false'. Refute it at one input. -/
def cencNamesWrong : ChangeSpec := { name := "cencNames", fn := fun _ => fun
  | [] => { results := [.lit (.bool false)], args := [] }
  | _ => none }
def CencNamesWrongFalsely : Prop := cencNamesRow.holds Try.pinned (OpenSpec.ofChange cencNamesWrong)

/-- 'quoinlaw05.CencTells': WHATEVER THE INPUT: true; the input reads as it did. -/
def cencTellsSpec : ChangeSpec := { name := "cencTells", fn := fun _ => fun
  | [d] => { results := [.lit (.bool true)], args := [d] }
  | _ => none }
def cencTellsRow : OpenClaim := { program := "ytklenhohljeacaa", sum := "49e72ddb9e557dff7b6a08b1a32ae0b3e38e951d6f87e3802fffc3f57057064b", func := "quoin/quoinlaw05.CencTells", spec := "cencTells", apart := false }
def CencTellsSaid : Prop := cencTellsRow.holds Try.pinned (OpenSpec.ofChange cencTellsSpec)

/-- ITS FALSE NEIGHBOUR: 'it returns false'. Refute it at one input. -/
def cencTellsWrong : ChangeSpec := { name := "cencTells", fn := fun _ => fun
  | [d] => { results := [.lit (.bool false)], args := [d] }
  | _ => none }
def CencTellsWrongFalsely : Prop := cencTellsRow.holds Try.pinned (OpenSpec.ofChange cencTellsWrong)

/-- 'quoinlaw05.CencAlone': WHATEVER THE INPUT: true; the input reads as it did. -/
def cencAloneSpec : ChangeSpec := { name := "cencAlone", fn := fun _ => fun
  | [d1, d2] => { results := [.lit (.bool true)], args := [d1, d2] }
  | _ => none }
def cencAloneRow : OpenClaim := { program := "ytklenhohljeacaa", sum := "49e72ddb9e557dff7b6a08b1a32ae0b3e38e951d6f87e3802fffc3f57057064b", func := "quoin/quoinlaw05.CencAlone", spec := "cencAlone", apart := false }
def CencAloneSaid : Prop := cencAloneRow.holds Try.pinned (OpenSpec.ofChange cencAloneSpec)

/-- ITS FALSE NEIGHBOUR: 'it returns false'. Refute it at one input. -/
def cencAloneWrong : ChangeSpec := { name := "cencAlone", fn := fun _ => fun
  | [d1, d2] => { results := [.lit (.bool false)], args := [d1, d2] }
  | _ => none }
def CencAloneWrongFalsely : Prop := cencAloneRow.holds Try.pinned (OpenSpec.ofChange cencAloneWrong)

/- THE SECOND FORM. 'bulk': how many values and letters a reading holds, each counted each time it is reached (what is shared counts as often as it is met; a slice's spare places count too). A statement '..UptoSaid' is the law's where the arguments, and the package variables that the reading takes, are together of bulk at most 1048576: NARROWER than '..Said'. Prove '..Said' where nothing that the law and all that it calls make is longer than what came in: it says more and counts as full. Else prove '..UptoSaid'. A law counts once. -/
mutual
def uptoBulk {H : Type} : DataW H → Nat
  | .lit (.string bytes) => bytes.length + 1
  | .lit _ => 1
  | .nil => 1
  | .ptr d => uptoBulk d + 1
  | .slice elems spare => uptoBulkAll elems + uptoBulkAll spare + 1
  | .agg parts => uptoBulkAll parts + 1
  | .iface _ d => uptoBulk d + 1
  | .map entries => uptoBulkEntries entries + 1
  | .held _ => 1
def uptoBulkAll {H : Type} : List (DataW H) → Nat
  | [] => 0
  | d :: r => uptoBulk d + uptoBulkAll r
def uptoBulkEntries {H : Type} : List (Lit × DataW H) → Nat
  | [] => 0
  | x :: r => uptoBulkEntry x + uptoBulkEntries r
def uptoBulkEntry {H : Type} : Lit × DataW H → Nat
  | (.string bytes, d) => bytes.length + uptoBulk d + 1
  | (_, d) => uptoBulk d + 1
 end
def uptoSmall : (H : Type) → List (DataW H) → Bool := fun _ ds => decide (uptoBulkAll ds ≤ 1048576)
def OpenSpec.upto (s : _root_.Go.ChangeSpec) : _root_.Go.OpenSpec := { _root_.Go.OpenSpec.ofChange s with cond := some uptoSmall }

/-- 'quoinlaw05.CencNames', WHERE WHAT IT READS IS OF BULK AT MOST 1048576: true; the input reads as it did. -/
def cencNamesUptoRow : OpenClaim := { program := "ytklenhohljeacaa", sum := "49e72ddb9e557dff7b6a08b1a32ae0b3e38e951d6f87e3802fffc3f57057064b", func := "quoin/quoinlaw05.CencNames", spec := "cencNames", apart := false, narrowed := true }
def CencNamesUptoSaid : Prop := cencNamesUptoRow.holds Try.pinned (OpenSpec.upto cencNamesSpec)

/-- 'quoinlaw05.CencTells', WHERE WHAT IT READS IS OF BULK AT MOST 1048576: true; the input reads as it did. -/
def cencTellsUptoRow : OpenClaim := { program := "ytklenhohljeacaa", sum := "49e72ddb9e557dff7b6a08b1a32ae0b3e38e951d6f87e3802fffc3f57057064b", func := "quoin/quoinlaw05.CencTells", spec := "cencTells", apart := false, narrowed := true }
def CencTellsUptoSaid : Prop := cencTellsUptoRow.holds Try.pinned (OpenSpec.upto cencTellsSpec)

/-- 'quoinlaw05.CencAlone', WHERE WHAT IT READS IS OF BULK AT MOST 1048576: true; the input reads as it did. -/
def cencAloneUptoRow : OpenClaim := { program := "ytklenhohljeacaa", sum := "49e72ddb9e557dff7b6a08b1a32ae0b3e38e951d6f87e3802fffc3f57057064b", func := "quoin/quoinlaw05.CencAlone", spec := "cencAlone", apart := false, narrowed := true }
def CencAloneUptoSaid : Prop := cencAloneUptoRow.holds Try.pinned (OpenSpec.upto cencAloneSpec)

end Rows
end Go.Proofs.Ytklenhohljeacaa
