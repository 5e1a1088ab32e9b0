/-
  The law CdecSize, class by class.
-/
import Derived.Test.YtklenhohljeacaaDoorEncD3
namespace Go.Proofs.YtklenhohljeacaaDoor
open Go.Proofs.YtklenhohljeacaaDoor.Ex
theorem size2 : (fun t0 t1 => (List.range' 12 9).all fun n => (sizeTr n).ok (runL orcZ 10000 6 [.sint .u16 (.var 0)] t0 t1) (FS n)) = fun _ _ => true := by kernel_rfl
end Go.Proofs.YtklenhohljeacaaDoor
