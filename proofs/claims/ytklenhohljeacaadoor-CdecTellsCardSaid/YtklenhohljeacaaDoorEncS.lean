import Derived.Test.YtklenhohljeacaaDoorEncW2
/-
  Short forms of instructions: what the document writes is what the program writes, row by row.
-/
namespace Go.Proofs.YtklenhohljeacaaDoor.Ex
theorem sums0 : ((grp 0).all fun r => allRow (sumP' r) r) = true := by kernel_rfl
theorem sums1 : ((grp 1).all fun r => allRow (sumP' r) r) = true := by kernel_rfl
theorem sums2 : ((grp 2).all fun r => allRow (sumP' r) r) = true := by kernel_rfl
theorem sums3 : ((grp 3).all fun r => allRow (sumP' r) r) = true := by kernel_rfl
theorem sums4 : ((grp 4).all fun r => allRow (sumP' r) r) = true := by kernel_rfl
end Go.Proofs.YtklenhohljeacaaDoor.Ex

/-
  Short forms of instructions: what the document writes is what the program writes, row by row.
-/
namespace Go.Proofs.YtklenhohljeacaaDoor.Ex
theorem sums5 : ((grp 5).all fun r => allRow (sumP' r) r) = true := by kernel_rfl
theorem sums6 : ((grp 6).all fun r => allRow (sumP' r) r) = true := by kernel_rfl
theorem sums7 : ((grp 7).all fun r => allRow (sumP' r) r) = true := by kernel_rfl
theorem sums8 : ((grp 8).all fun r => allRow (sumP' r) r) = true := by kernel_rfl
theorem stands : (rowsL.all standRow) = true := by kernel_rfl
end Go.Proofs.YtklenhohljeacaaDoor.Ex

/-
  Short forms of instructions: what the document writes is what the program writes, row by row.
-/
namespace Go.Proofs.YtklenhohljeacaaDoor.Ex
theorem nums0 : ((grp 0).all numRow) = true := by kernel_rfl
theorem nums1 : ((grp 1).all numRow) = true := by kernel_rfl
theorem nums2 : ((grp 2).all numRow) = true := by kernel_rfl
theorem nums3 : ((grp 3).all numRow) = true := by kernel_rfl
theorem nums4 : ((grp 4).all numRow) = true := by kernel_rfl
theorem nums5 : ((grp 5).all numRow) = true := by kernel_rfl
theorem nums6 : ((grp 6).all numRow) = true := by kernel_rfl
theorem nums7 : ((grp 7).all numRow) = true := by kernel_rfl
theorem nums8 : ((grp 8).all numRow) = true := by kernel_rfl
end Go.Proofs.YtklenhohljeacaaDoor.Ex

/-
  Short forms of instructions: what the document writes is what the program writes: all rows.
-/
namespace Go.Proofs.YtklenhohljeacaaDoor.Ex
theorem sums_all : ∀ r ∈ rowsL, (fun r => allRow (sumP' r) r = true) r := by
  refine grp_mem fun k hk r hr => ?_
  match k, hk with
  | 0, _ => exact List.all_eq_true.1 sums0 r hr
  | 1, _ => exact List.all_eq_true.1 sums1 r hr
  | 2, _ => exact List.all_eq_true.1 sums2 r hr
  | 3, _ => exact List.all_eq_true.1 sums3 r hr
  | 4, _ => exact List.all_eq_true.1 sums4 r hr
  | 5, _ => exact List.all_eq_true.1 sums5 r hr
  | 6, _ => exact List.all_eq_true.1 sums6 r hr
  | 7, _ => exact List.all_eq_true.1 sums7 r hr
  | 8, _ => exact List.all_eq_true.1 sums8 r hr
theorem nums_all : ∀ r ∈ rowsL, (fun r => numRow r = true) r := by
  refine grp_mem fun k hk r hr => ?_
  match k, hk with
  | 0, _ => exact List.all_eq_true.1 nums0 r hr
  | 1, _ => exact List.all_eq_true.1 nums1 r hr
  | 2, _ => exact List.all_eq_true.1 nums2 r hr
  | 3, _ => exact List.all_eq_true.1 nums3 r hr
  | 4, _ => exact List.all_eq_true.1 nums4 r hr
  | 5, _ => exact List.all_eq_true.1 nums5 r hr
  | 6, _ => exact List.all_eq_true.1 nums6 r hr
  | 7, _ => exact List.all_eq_true.1 nums7 r hr
  | 8, _ => exact List.all_eq_true.1 nums8 r hr
theorem stands_all : ∀ r ∈ rowsL, standRow r = true := fun r hr => List.all_eq_true.1 stands r hr
end Go.Proofs.YtklenhohljeacaaDoor.Ex

