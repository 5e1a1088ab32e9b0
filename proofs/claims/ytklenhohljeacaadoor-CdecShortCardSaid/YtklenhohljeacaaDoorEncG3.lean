/-
  Half words: what is read of a short form is the instruction, row by row.
-/
import Derived.Test.YtklenhohljeacaaDoorEncR
namespace Go.Proofs.YtklenhohljeacaaDoor.Ex
theorem raws5_0 : (((rowsL.drop 20).take 1).all fun r => allRow (rawP r) r) = true := by kernel_rfl
theorem raws5_1 : (((rowsL.drop 21).take 1).all fun r => allRow (rawP r) r) = true := by kernel_rfl
theorem raws5_2 : (((rowsL.drop 22).take 1).all fun r => allRow (rawP r) r) = true := by kernel_rfl
theorem raws5_3 : (((rowsL.drop 23).take 1).all fun r => allRow (rawP r) r) = true := by kernel_rfl
theorem raws5 : ((grp 5).all fun r => allRow (rawP r) r) = true := by
  have e : grp 5 = (rowsL.drop 20).take 1 ++ ((rowsL.drop 21).take 1 ++ ((rowsL.drop 22).take 1 ++ (rowsL.drop 23).take 1)) := rfl
  rw [e, List.all_append, List.all_append, List.all_append, raws5_0, raws5_1, raws5_2, raws5_3]
  rfl
theorem raws6_0 : (((rowsL.drop 24).take 1).all fun r => allRow (rawP r) r) = true := by kernel_rfl
theorem raws6_1 : (((rowsL.drop 25).take 1).all fun r => allRow (rawP r) r) = true := by kernel_rfl
theorem raws6_2 : (((rowsL.drop 26).take 1).all fun r => allRow (rawP r) r) = true := by kernel_rfl
theorem raws6_3 : (((rowsL.drop 27).take 1).all fun r => allRow (rawP r) r) = true := by kernel_rfl
theorem raws6 : ((grp 6).all fun r => allRow (rawP r) r) = true := by
  have e : grp 6 = (rowsL.drop 24).take 1 ++ ((rowsL.drop 25).take 1 ++ ((rowsL.drop 26).take 1 ++ (rowsL.drop 27).take 1)) := rfl
  rw [e, List.all_append, List.all_append, List.all_append, raws6_0, raws6_1, raws6_2, raws6_3]
  rfl
end Go.Proofs.YtklenhohljeacaaDoor.Ex
