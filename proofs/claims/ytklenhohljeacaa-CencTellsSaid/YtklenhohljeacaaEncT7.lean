/-
  Short forms of instructions: the document's Find, in the program's own numbers: part 2.
-/
import Derived.Test.YtklenhohljeacaaEncT6
namespace Go.Proofs.Ytklenhohljeacaa
open Go.Proofs.Ytklenhohljeacaa.Ex
theorem find_b : ((List.range' 21 1).all findOk) = true := by kernel_rfl
end Go.Proofs.Ytklenhohljeacaa
