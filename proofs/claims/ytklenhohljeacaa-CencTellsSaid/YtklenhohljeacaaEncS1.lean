/-
  Short forms of instructions: what the document writes is what the program writes, row by row.
-/
import Derived.Test.YtklenhohljeacaaEncW2
namespace Go.Proofs.Ytklenhohljeacaa.Ex
theorem sums0 : ((grp 0).all fun r => allRow (sumP' r) r) = true := by kernel_rfl
theorem sums1 : ((grp 1).all fun r => allRow (sumP' r) r) = true := by kernel_rfl
theorem sums2 : ((grp 2).all fun r => allRow (sumP' r) r) = true := by kernel_rfl
theorem sums3 : ((grp 3).all fun r => allRow (sumP' r) r) = true := by kernel_rfl
theorem sums4 : ((grp 4).all fun r => allRow (sumP' r) r) = true := by kernel_rfl
end Go.Proofs.Ytklenhohljeacaa.Ex
