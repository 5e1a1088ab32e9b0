import Derived.Test.YtklenhohljeacaaEncT1
namespace Go.Proofs.Ytklenhohljeacaa
open Go.Proofs.Ytklenhohljeacaa.Ex
theorem check : CheckC Try.prog 12 := checkC_of mixed form (by kernel_rfl) (by kernel_rfl)
theorem may : MayC Try.prog 14 := mayC_of mixed form2 (by kernel_rfl) (by kernel_rfl)
theorem regs : RegsC Try.prog 23 := regsC_of mixed (by kernel_rfl)
theorem number : NumberC Try.prog 24 := numberC_of mixed (by kernel_rfl)
theorem right : RightC Try.prog 30 := rightC_of mixed (by kernel_rfl)
theorem fits : FitsC Try.prog 31 := fitsC_of mixed (by kernel_rfl)
end Go.Proofs.Ytklenhohljeacaa
