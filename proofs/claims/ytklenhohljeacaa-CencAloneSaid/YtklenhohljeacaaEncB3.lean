/-
  Short forms of instructions: read back, row by row.
-/
import Derived.Test.YtklenhohljeacaaEncQ
namespace Go.Proofs.Ytklenhohljeacaa.Ex
theorem back3 : ((grp 3).all fun r => allRow (backP r) r) = true := by kernel_rfl
theorem back6 : ((grp 6).all fun r => allRow (backP r) r) = true := by kernel_rfl
end Go.Proofs.Ytklenhohljeacaa.Ex
