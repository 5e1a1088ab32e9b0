import Derived.Test.YtklenhohljeacaaDoorEncR
import Derived.Test.YtklenhohljeacaaDoorEncI2
/-
  Half words: what is read of a short form is the instruction, row by row.
-/
namespace Go.Proofs.YtklenhohljeacaaDoor.Ex
theorem raws0_0 : (((rowsL.drop 0).take 1).all fun r => allRow (rawP r) r) = true := by kernel_rfl
theorem raws0_1 : (((rowsL.drop 1).take 1).all fun r => allRow (rawP r) r) = true := by kernel_rfl
theorem raws0_2 : (((rowsL.drop 2).take 1).all fun r => allRow (rawP r) r) = true := by kernel_rfl
theorem raws0_3 : (((rowsL.drop 3).take 1).all fun r => allRow (rawP r) r) = true := by kernel_rfl
theorem raws0 : ((grp 0).all fun r => allRow (rawP r) r) = true := by
  have e : grp 0 = (rowsL.drop 0).take 1 ++ ((rowsL.drop 1).take 1 ++ ((rowsL.drop 2).take 1 ++ (rowsL.drop 3).take 1)) := rfl
  rw [e, List.all_append, List.all_append, List.all_append, raws0_0, raws0_1, raws0_2, raws0_3]
  rfl
theorem raws1_0 : (((rowsL.drop 4).take 1).all fun r => allRow (rawP r) r) = true := by kernel_rfl
theorem raws1_1 : (((rowsL.drop 5).take 1).all fun r => allRow (rawP r) r) = true := by kernel_rfl
theorem raws1_2 : (((rowsL.drop 6).take 1).all fun r => allRow (rawP r) r) = true := by kernel_rfl
theorem raws1_3 : (((rowsL.drop 7).take 1).all fun r => allRow (rawP r) r) = true := by kernel_rfl
theorem raws1 : ((grp 1).all fun r => allRow (rawP r) r) = true := by
  have e : grp 1 = (rowsL.drop 4).take 1 ++ ((rowsL.drop 5).take 1 ++ ((rowsL.drop 6).take 1 ++ (rowsL.drop 7).take 1)) := rfl
  rw [e, List.all_append, List.all_append, List.all_append, raws1_0, raws1_1, raws1_2, raws1_3]
  rfl
end Go.Proofs.YtklenhohljeacaaDoor.Ex

/-
  Half words: what is read of a short form is the instruction, row by row.
-/
namespace Go.Proofs.YtklenhohljeacaaDoor.Ex
theorem raws2_0 : (((rowsL.drop 8).take 1).all fun r => allRow (rawP r) r) = true := by kernel_rfl
theorem raws2_1 : (((rowsL.drop 9).take 1).all fun r => allRow (rawP r) r) = true := by kernel_rfl
theorem raws2_2 : (((rowsL.drop 10).take 1).all fun r => allRow (rawP r) r) = true := by kernel_rfl
theorem raws2_3 : (((rowsL.drop 11).take 1).all fun r => allRow (rawP r) r) = true := by kernel_rfl
theorem raws2 : ((grp 2).all fun r => allRow (rawP r) r) = true := by
  have e : grp 2 = (rowsL.drop 8).take 1 ++ ((rowsL.drop 9).take 1 ++ ((rowsL.drop 10).take 1 ++ (rowsL.drop 11).take 1)) := rfl
  rw [e, List.all_append, List.all_append, List.all_append, raws2_0, raws2_1, raws2_2, raws2_3]
  rfl
theorem raws3 : ((grp 3).all fun r => allRow (rawP r) r) = true := by kernel_rfl
theorem raws4 : ((grp 4).all fun r => allRow (rawP r) r) = true := by kernel_rfl
end Go.Proofs.YtklenhohljeacaaDoor.Ex

/-
  Half words: what is read of a short form is the instruction, row by row.
-/
namespace Go.Proofs.YtklenhohljeacaaDoor.Ex
theorem raws5_0 : (((rowsL.drop 20).take 1).all fun r => allRow (rawP r) r) = true := by kernel_rfl
theorem raws5_1 : (((rowsL.drop 21).take 1).all fun r => allRow (rawP r) r) = true := by kernel_rfl
theorem raws5_2 : (((rowsL.drop 22).take 1).all fun r => allRow (rawP r) r) = true := by kernel_rfl
theorem raws5_3 : (((rowsL.drop 23).take 1).all fun r => allRow (rawP r) r) = true := by kernel_rfl
theorem raws5 : ((grp 5).all fun r => allRow (rawP r) r) = true := by
  have e : grp 5 = (rowsL.drop 20).take 1 ++ ((rowsL.drop 21).take 1 ++ ((rowsL.drop 22).take 1 ++ (rowsL.drop 23).take 1)) := rfl
  rw [e, List.all_append, List.all_append, List.all_append, raws5_0, raws5_1, raws5_2, raws5_3]
  rfl
theorem raws6_0 : (((rowsL.drop 24).take 1).all fun r => allRow (rawP r) r) = true := by kernel_rfl
theorem raws6_1 : (((rowsL.drop 25).take 1).all fun r => allRow (rawP r) r) = true := by kernel_rfl
theorem raws6_2 : (((rowsL.drop 26).take 1).all fun r => allRow (rawP r) r) = true := by kernel_rfl
theorem raws6_3 : (((rowsL.drop 27).take 1).all fun r => allRow (rawP r) r) = true := by kernel_rfl
theorem raws6 : ((grp 6).all fun r => allRow (rawP r) r) = true := by
  have e : grp 6 = (rowsL.drop 24).take 1 ++ ((rowsL.drop 25).take 1 ++ ((rowsL.drop 26).take 1 ++ (rowsL.drop 27).take 1)) := rfl
  rw [e, List.all_append, List.all_append, List.all_append, raws6_0, raws6_1, raws6_2, raws6_3]
  rfl
end Go.Proofs.YtklenhohljeacaaDoor.Ex

/-
  Half words: what is read of a short form is the instruction, row by row.
-/
namespace Go.Proofs.YtklenhohljeacaaDoor.Ex
theorem raws7 : ((grp 7).all fun r => allRow (rawP r) r) = true := by kernel_rfl
theorem raws8 : ((grp 8).all fun r => allRow (rawP r) r) = true := by kernel_rfl
end Go.Proofs.YtklenhohljeacaaDoor.Ex

/-
  Half words: what the program reads of a short form is the instruction: all rows.
-/
namespace Go.Proofs.YtklenhohljeacaaDoor.Ex
theorem raws_all : ∀ r ∈ rowsL, (fun r => allRow (rawP r) r = true) r := by
  refine grp_mem fun k hk r hr => ?_
  match k, hk with
  | 0, _ => exact List.all_eq_true.1 raws0 r hr
  | 1, _ => exact List.all_eq_true.1 raws1 r hr
  | 2, _ => exact List.all_eq_true.1 raws2 r hr
  | 3, _ => exact List.all_eq_true.1 raws3 r hr
  | 4, _ => exact List.all_eq_true.1 raws4 r hr
  | 5, _ => exact List.all_eq_true.1 raws5 r hr
  | 6, _ => exact List.all_eq_true.1 raws6 r hr
  | 7, _ => exact List.all_eq_true.1 raws7 r hr
  | 8, _ => exact List.all_eq_true.1 raws8 r hr
end Go.Proofs.YtklenhohljeacaaDoor.Ex

