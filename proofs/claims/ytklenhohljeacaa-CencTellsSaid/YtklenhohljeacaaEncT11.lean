/-
  Short forms of instructions: the document's Half, in the program's own numbers: one more part.
-/
import Derived.Test.YtklenhohljeacaaEncT9
namespace Go.Proofs.Ytklenhohljeacaa
theorem rows_c : ((List.range' 22 11).all rowOk) = true := by kernel_rfl
end Go.Proofs.Ytklenhohljeacaa
