/-
  What cdec.raw answers, class by class.
-/
import Derived.Test.YtklenhohljeacaaDoorEncD5
namespace Go.Proofs.YtklenhohljeacaaDoor
open Go.Proofs.YtklenhohljeacaaDoor.Ex
theorem raws2 : (fun t0 t1 => (List.range' 10 9).all fun n => rawIn n t0 t1) = fun _ _ => true := by kernel_rfl
end Go.Proofs.YtklenhohljeacaaDoor
