import Derived.Test.YtklenhohljeacaaDoorEncD5
/-
  What cdec.raw answers, class by class.
-/
namespace Go.Proofs.YtklenhohljeacaaDoor
open Go.Proofs.YtklenhohljeacaaDoor.Ex
theorem raws1 : (fun t0 t1 => (List.range' 0 10).all fun n => rawIn n t0 t1) = fun _ _ => true := by kernel_rfl
end Go.Proofs.YtklenhohljeacaaDoor

/-
  What cdec.raw answers, class by class.
-/
namespace Go.Proofs.YtklenhohljeacaaDoor
open Go.Proofs.YtklenhohljeacaaDoor.Ex
theorem raws2 : (fun t0 t1 => (List.range' 10 9).all fun n => rawIn n t0 t1) = fun _ _ => true := by kernel_rfl
end Go.Proofs.YtklenhohljeacaaDoor

/-
  What cdec.raw answers, class by class.
-/
namespace Go.Proofs.YtklenhohljeacaaDoor
open Go.Proofs.YtklenhohljeacaaDoor.Ex
theorem raws3 : (fun t0 t1 => (List.range' 19 12).all fun n => rawIn n t0 t1) = fun _ _ => true := by kernel_rfl
end Go.Proofs.YtklenhohljeacaaDoor

/-
  What cdec.raw answers, class by class.
-/
namespace Go.Proofs.YtklenhohljeacaaDoor
open Go.Proofs.YtklenhohljeacaaDoor.Ex
theorem raws4 : (fun t0 t1 => (List.range' 31 8).all fun n => rawIn n t0 t1) = fun _ _ => true := by kernel_rfl
end Go.Proofs.YtklenhohljeacaaDoor

