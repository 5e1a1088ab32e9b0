/-
  Short forms of instructions: Half and Short, in the door program's own numbers.
-/
import Derived.Test.YtklenhohljeacaaDoorEncD1
namespace Go.Proofs.YtklenhohljeacaaDoor
open Go.Proofs.YtklenhohljeacaaDoor.Ex
theorem half : HalfI Tryd.prog 18 := halfI_of mixed regs number (by kernel_rfl) (by kernel_rfl)
theorem enc : EncC Tryd.prog 8 := encC_of mixed check half (by kernel_rfl)
theorem short : ShortC Tryd.prog 17 := shortC_of mixed check half (by kernel_rfl)
end Go.Proofs.YtklenhohljeacaaDoor
