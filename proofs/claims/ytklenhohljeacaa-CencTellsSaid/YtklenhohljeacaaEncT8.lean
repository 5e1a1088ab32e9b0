/-
  Short forms of instructions: the document's Find, in the program's own numbers: part 3.
-/
import Derived.Test.YtklenhohljeacaaEncT6
namespace Go.Proofs.Ytklenhohljeacaa
open Go.Proofs.Ytklenhohljeacaa.Ex
theorem find_c : ((List.range' 22 30).all findOk) = true := by kernel_rfl
theorem find_d : ((List.range' 52 42).all findOk) = true := by kernel_rfl
end Go.Proofs.Ytklenhohljeacaa
