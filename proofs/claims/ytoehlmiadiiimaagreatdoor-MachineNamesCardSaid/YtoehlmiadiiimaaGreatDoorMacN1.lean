/-
  MachineNames: the run.
-/
import Derived.Test.YtoehlmiadiiimaaGreatDoorMacT
namespace Go.Proofs.YtoehlmiadiiimaaGreatDoor
open Go.Proofs.YtoehlmiadiiimaaGreatDoor.Ex
theorem told8 : (fun ts => (Tr.leaf (.bool true)).ok (runG Tryz.prog vars 13 o184 10000 8 [] ts) ⟨[], [], []⟩) = fun _ => true := by kernel_rfl
theorem ret8 : RetG Tryz.prog vars 13 8 [] (.bool true) :=
  ret_laidG mixed (o184_OK fun _ _ => 0) told8 (Fa.On.nil (fun _ => 0) _) rfl rfl rfl rfl rfl
end Go.Proofs.YtoehlmiadiiimaaGreatDoor
