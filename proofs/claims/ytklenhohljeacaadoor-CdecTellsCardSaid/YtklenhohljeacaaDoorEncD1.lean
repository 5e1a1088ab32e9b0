/-
  Short forms of instructions: the small functions, in the door program's own numbers.
-/
import Derived.Test.YtklenhohljeacaaDoorRows
import Derived.Test.YtklenhohljeacaaDoorEncK
namespace Go.Proofs.YtklenhohljeacaaDoor
open Go.Proofs.YtklenhohljeacaaDoor.Ex
theorem mixed : Tryd.prog.follows .mixedOrders = true := by kernel_rfl
theorem form : FormC Tryd.prog 23 := formC_of mixed (by kernel_rfl) (no := formNo) (by kernel_rfl) (by kernel_rfl)
theorem check : CheckC Tryd.prog 16 := checkC_of mixed form (by kernel_rfl) (by kernel_rfl)
theorem regs : RegsC Tryd.prog 28 := regsC_of mixed (by kernel_rfl)
theorem number : NumberC Tryd.prog 29 := numberC_of mixed (by kernel_rfl)
end Go.Proofs.YtklenhohljeacaaDoor
