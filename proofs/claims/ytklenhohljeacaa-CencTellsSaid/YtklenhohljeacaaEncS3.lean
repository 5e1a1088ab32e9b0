/-
  Short forms of instructions: what the document writes is what the program writes, row by row.
-/
import Derived.Test.YtklenhohljeacaaEncW2
namespace Go.Proofs.Ytklenhohljeacaa.Ex
theorem nums0 : ((grp 0).all numRow) = true := by kernel_rfl
theorem nums1 : ((grp 1).all numRow) = true := by kernel_rfl
theorem nums2 : ((grp 2).all numRow) = true := by kernel_rfl
theorem nums3 : ((grp 3).all numRow) = true := by kernel_rfl
theorem nums4 : ((grp 4).all numRow) = true := by kernel_rfl
theorem nums5 : ((grp 5).all numRow) = true := by kernel_rfl
theorem nums6 : ((grp 6).all numRow) = true := by kernel_rfl
theorem nums7 : ((grp 7).all numRow) = true := by kernel_rfl
theorem nums8 : ((grp 8).all numRow) = true := by kernel_rfl
end Go.Proofs.Ytklenhohljeacaa.Ex
