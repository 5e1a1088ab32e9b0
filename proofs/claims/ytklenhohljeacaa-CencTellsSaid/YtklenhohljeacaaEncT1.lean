import Derived.Test.YtklenhohljeacaaRows
import Derived.Test.YtklenhohljeacaaEncO
namespace Go.Proofs.Ytklenhohljeacaa
open Go.Proofs.Ytklenhohljeacaa.Ex
theorem mixed : Try.prog.follows .mixedOrders = true := by kernel_rfl
theorem form : FormC Try.prog 18 := formC_of mixed (by kernel_rfl) (no := formNo) (by kernel_rfl) (by kernel_rfl)
theorem form2 : FormC Try.prog 26 := formC_of mixed (by kernel_rfl) (no := form2No) (by kernel_rfl) (by kernel_rfl)
end Go.Proofs.Ytklenhohljeacaa
