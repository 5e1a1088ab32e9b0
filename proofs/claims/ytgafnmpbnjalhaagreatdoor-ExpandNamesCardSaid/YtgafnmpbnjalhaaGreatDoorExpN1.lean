/-
  ExpandNames: the run.
-/
import Derived.Test.YtgafnmpbnjalhaaGreatDoorExpT
namespace Go.Proofs.YtgafnmpbnjalhaaGreatDoor
open Go.Proofs.YtgafnmpbnjalhaaGreatDoor.Ex
theorem told4 : (fun ts => (Tr.leaf (.bool true)).ok (runG Tryz.prog vars 14 o87 10000 4 [] ts) ⟨[], [], []⟩) = fun _ => true := by kernel_rfl
theorem ret4 : RetG Tryz.prog vars 14 4 [] (.bool true) :=
  ret_laidG mixed (o87_OK fun _ _ => 0) told4 (Fa.On.nil (fun _ => 0) _) rfl rfl rfl rfl rfl
end Go.Proofs.YtgafnmpbnjalhaaGreatDoor
