/-
  What cdec.raw answers, class by class.
-/
import Derived.Test.YtklenhohljeacaaDoorEncD5
namespace Go.Proofs.YtklenhohljeacaaDoor
open Go.Proofs.YtklenhohljeacaaDoor.Ex
theorem raws3 : (fun t0 t1 => (List.range' 19 12).all fun n => rawIn n t0 t1) = fun _ _ => true := by kernel_rfl
end Go.Proofs.YtklenhohljeacaaDoor
