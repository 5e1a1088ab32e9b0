/-
  Short forms of instructions: what the document writes is what the program writes, row by row.
-/
import Derived.Test.YtklenhohljeacaaEncW2
namespace Go.Proofs.Ytklenhohljeacaa.Ex
theorem sums5 : ((grp 5).all fun r => allRow (sumP' r) r) = true := by kernel_rfl
theorem sums6 : ((grp 6).all fun r => allRow (sumP' r) r) = true := by kernel_rfl
theorem sums7 : ((grp 7).all fun r => allRow (sumP' r) r) = true := by kernel_rfl
theorem sums8 : ((grp 8).all fun r => allRow (sumP' r) r) = true := by kernel_rfl
theorem stands : (rowsL.all standRow) = true := by kernel_rfl
end Go.Proofs.Ytklenhohljeacaa.Ex
