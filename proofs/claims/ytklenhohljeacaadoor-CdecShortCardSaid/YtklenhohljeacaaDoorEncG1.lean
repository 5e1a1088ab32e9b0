/-
  Half words: what is read of a short form is the instruction, row by row.
-/
import Derived.Test.YtklenhohljeacaaDoorEncR
namespace Go.Proofs.YtklenhohljeacaaDoor.Ex
theorem raws0_0 : (((rowsL.drop 0).take 1).all fun r => allRow (rawP r) r) = true := by kernel_rfl
theorem raws0_1 : (((rowsL.drop 1).take 1).all fun r => allRow (rawP r) r) = true := by kernel_rfl
theorem raws0_2 : (((rowsL.drop 2).take 1).all fun r => allRow (rawP r) r) = true := by kernel_rfl
theorem raws0_3 : (((rowsL.drop 3).take 1).all fun r => allRow (rawP r) r) = true := by kernel_rfl
theorem raws0 : ((grp 0).all fun r => allRow (rawP r) r) = true := by
  have e : grp 0 = (rowsL.drop 0).take 1 ++ ((rowsL.drop 1).take 1 ++ ((rowsL.drop 2).take 1 ++ (rowsL.drop 3).take 1)) := rfl
  rw [e, List.all_append, List.all_append, List.all_append, raws0_0, raws0_1, raws0_2, raws0_3]
  rfl
theorem raws1_0 : (((rowsL.drop 4).take 1).all fun r => allRow (rawP r) r) = true := by kernel_rfl
theorem raws1_1 : (((rowsL.drop 5).take 1).all fun r => allRow (rawP r) r) = true := by kernel_rfl
theorem raws1_2 : (((rowsL.drop 6).take 1).all fun r => allRow (rawP r) r) = true := by kernel_rfl
theorem raws1_3 : (((rowsL.drop 7).take 1).all fun r => allRow (rawP r) r) = true := by kernel_rfl
theorem raws1 : ((grp 1).all fun r => allRow (rawP r) r) = true := by
  have e : grp 1 = (rowsL.drop 4).take 1 ++ ((rowsL.drop 5).take 1 ++ ((rowsL.drop 6).take 1 ++ (rowsL.drop 7).take 1)) := rfl
  rw [e, List.all_append, List.all_append, List.all_append, raws1_0, raws1_1, raws1_2, raws1_3]
  rfl
end Go.Proofs.YtklenhohljeacaaDoor.Ex
