/-
  Short forms of instructions: the document's Find, in the program's own numbers: part 1.
-/
import Derived.Test.YtklenhohljeacaaEncT2
import Derived.Test.YtklenhohljeacaaEncF
namespace Go.Proofs.Ytklenhohljeacaa
open Go.Proofs.Ytklenhohljeacaa.Ex
/-- Does Find answer as the rows have it, for so many instructions? -/
noncomputable def findOk (k : Nat) : Bool := ((findTr ((k : Int) + 1)).prune []).ok (Go.Proofs.Ytklenhohljeacaa.Ex.runT Try.prog (orcS 30 31) 10000 0 15 [insnA ((k : Int) + 1)]) (FM ((k : Int) + 1))
theorem find_a : ((List.range' 0 21).all findOk) = true := by kernel_rfl
end Go.Proofs.Ytklenhohljeacaa
