/-
  Half words: what is read of a short form is the instruction, row by row.
-/
import Derived.Test.YtklenhohljeacaaDoorEncR
namespace Go.Proofs.YtklenhohljeacaaDoor.Ex
theorem raws2_0 : (((rowsL.drop 8).take 1).all fun r => allRow (rawP r) r) = true := by kernel_rfl
theorem raws2_1 : (((rowsL.drop 9).take 1).all fun r => allRow (rawP r) r) = true := by kernel_rfl
theorem raws2_2 : (((rowsL.drop 10).take 1).all fun r => allRow (rawP r) r) = true := by kernel_rfl
theorem raws2_3 : (((rowsL.drop 11).take 1).all fun r => allRow (rawP r) r) = true := by kernel_rfl
theorem raws2 : ((grp 2).all fun r => allRow (rawP r) r) = true := by
  have e : grp 2 = (rowsL.drop 8).take 1 ++ ((rowsL.drop 9).take 1 ++ ((rowsL.drop 10).take 1 ++ (rowsL.drop 11).take 1)) := rfl
  rw [e, List.all_append, List.all_append, List.all_append, raws2_0, raws2_1, raws2_2, raws2_3]
  rfl
theorem raws3 : ((grp 3).all fun r => allRow (rawP r) r) = true := by kernel_rfl
theorem raws4 : ((grp 4).all fun r => allRow (rawP r) r) = true := by kernel_rfl
end Go.Proofs.YtklenhohljeacaaDoor.Ex
