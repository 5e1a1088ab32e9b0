/-
  The machine's laws: alive.
-/
import Derived.Test.YtoehlmiadiiimaaGreatDoorMacT
namespace Go.Proofs.YtoehlmiadiiimaaGreatDoor
open Go.Proofs.YtoehlmiadiiimaaGreatDoor.Ex
theorem told25 : (fun ts => (Tr.leaf (.bool true)).ok (runG Tryz.prog vars 13 o184 10000 25 [] ts) ⟨[], [], []⟩) = fun _ => true := by kernel_rfl
theorem ret25 : RetG Tryz.prog vars 13 25 [] (.bool true) :=
  ret_laidG mixed (o184_OK fun _ _ => 0) told25 (Fa.On.nil (fun _ => 0) _) rfl rfl rfl rfl rfl
end Go.Proofs.YtoehlmiadiiimaaGreatDoor
