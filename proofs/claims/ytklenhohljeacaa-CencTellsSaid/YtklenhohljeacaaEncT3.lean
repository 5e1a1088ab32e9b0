import Derived.Test.YtklenhohljeacaaEncT2
import Derived.Test.YtklenhohljeacaaEncH
namespace Go.Proofs.Ytklenhohljeacaa
open Go.Proofs.Ytklenhohljeacaa.Ex
theorem half : HalfI Try.prog 13 := halfI_of mixed regs number (by kernel_rfl) (by kernel_rfl)
end Go.Proofs.Ytklenhohljeacaa
