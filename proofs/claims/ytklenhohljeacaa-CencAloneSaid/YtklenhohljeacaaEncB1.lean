/-
  Short forms of instructions: read back, row by row.
-/
import Derived.Test.YtklenhohljeacaaEncQ
namespace Go.Proofs.Ytklenhohljeacaa.Ex
theorem back0 : ((grp 0).all fun r => allRow (backP r) r) = true := by kernel_rfl
theorem back1 : ((grp 1).all fun r => allRow (backP r) r) = true := by kernel_rfl
end Go.Proofs.Ytklenhohljeacaa.Ex
