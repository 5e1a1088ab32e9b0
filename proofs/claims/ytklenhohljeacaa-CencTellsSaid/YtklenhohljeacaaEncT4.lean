import Derived.Test.YtklenhohljeacaaEncT3
import Derived.Test.YtklenhohljeacaaEncK
namespace Go.Proofs.Ytklenhohljeacaa
open Go.Proofs.Ytklenhohljeacaa.Ex
theorem enc : EncC Try.prog 6 := encC_of mixed check half (by kernel_rfl)
theorem short : ShortC Try.prog 7 := shortC_of mixed check half (by kernel_rfl)
end Go.Proofs.Ytklenhohljeacaa
