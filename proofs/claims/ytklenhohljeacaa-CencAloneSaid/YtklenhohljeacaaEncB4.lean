/-
  Short forms of instructions: read back, row by row.
-/
import Derived.Test.YtklenhohljeacaaEncQ
namespace Go.Proofs.Ytklenhohljeacaa.Ex
theorem back4 : ((grp 4).all fun r => allRow (backP r) r) = true := by kernel_rfl
theorem back7 : ((grp 7).all fun r => allRow (backP r) r) = true := by kernel_rfl
theorem back8 : ((grp 8).all fun r => allRow (backP r) r) = true := by kernel_rfl
end Go.Proofs.Ytklenhohljeacaa.Ex
