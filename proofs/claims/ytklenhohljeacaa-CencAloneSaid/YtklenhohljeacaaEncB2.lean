/-
  Short forms of instructions: read back, row by row.
-/
import Derived.Test.YtklenhohljeacaaEncQ
namespace Go.Proofs.Ytklenhohljeacaa.Ex
theorem back2 : ((grp 2).all fun r => allRow (backP r) r) = true := by kernel_rfl
theorem back5_20 : (((rowsL.drop 20).take 1).all fun r => allRow (backP r) r) = true := by kernel_rfl
theorem back5_21 : (((rowsL.drop 21).take 1).all fun r => allRow (backP r) r) = true := by kernel_rfl
theorem back5_22 : (((rowsL.drop 22).take 1).all fun r => allRow (backP r) r) = true := by kernel_rfl
theorem back5_23 : (((rowsL.drop 23).take 1).all fun r => allRow (backP r) r) = true := by kernel_rfl
theorem back5 : ((grp 5).all fun r => allRow (backP r) r) = true := by
  have e : grp 5 = (rowsL.drop 20).take 1 ++ ((rowsL.drop 21).take 1 ++ ((rowsL.drop 22).take 1 ++ (rowsL.drop 23).take 1)) := rfl
  rw [e, List.all_append, List.all_append, List.all_append, back5_20, back5_21, back5_22, back5_23]
  rfl
end Go.Proofs.Ytklenhohljeacaa.Ex
