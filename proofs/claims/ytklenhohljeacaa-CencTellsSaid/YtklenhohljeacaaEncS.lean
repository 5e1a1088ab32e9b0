/-
  Short forms of instructions: what the document writes is what the program writes: all rows.
-/
import Derived.Test.YtklenhohljeacaaEncS1
import Derived.Test.YtklenhohljeacaaEncS2
import Derived.Test.YtklenhohljeacaaEncS3
namespace Go.Proofs.Ytklenhohljeacaa.Ex
theorem sums_all : ∀ r ∈ rowsL, (fun r => allRow (sumP' r) r = true) r := by
  refine grp_mem fun k hk r hr => ?_
  match k, hk with
  | 0, _ => exact List.all_eq_true.1 sums0 r hr
  | 1, _ => exact List.all_eq_true.1 sums1 r hr
  | 2, _ => exact List.all_eq_true.1 sums2 r hr
  | 3, _ => exact List.all_eq_true.1 sums3 r hr
  | 4, _ => exact List.all_eq_true.1 sums4 r hr
  | 5, _ => exact List.all_eq_true.1 sums5 r hr
  | 6, _ => exact List.all_eq_true.1 sums6 r hr
  | 7, _ => exact List.all_eq_true.1 sums7 r hr
  | 8, _ => exact List.all_eq_true.1 sums8 r hr
theorem nums_all : ∀ r ∈ rowsL, (fun r => numRow r = true) r := by
  refine grp_mem fun k hk r hr => ?_
  match k, hk with
  | 0, _ => exact List.all_eq_true.1 nums0 r hr
  | 1, _ => exact List.all_eq_true.1 nums1 r hr
  | 2, _ => exact List.all_eq_true.1 nums2 r hr
  | 3, _ => exact List.all_eq_true.1 nums3 r hr
  | 4, _ => exact List.all_eq_true.1 nums4 r hr
  | 5, _ => exact List.all_eq_true.1 nums5 r hr
  | 6, _ => exact List.all_eq_true.1 nums6 r hr
  | 7, _ => exact List.all_eq_true.1 nums7 r hr
  | 8, _ => exact List.all_eq_true.1 nums8 r hr
theorem stands_all : ∀ r ∈ rowsL, standRow r = true := fun r hr => List.all_eq_true.1 stands r hr
end Go.Proofs.Ytklenhohljeacaa.Ex
