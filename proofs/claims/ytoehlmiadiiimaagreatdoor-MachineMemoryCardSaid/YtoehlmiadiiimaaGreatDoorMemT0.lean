/-
  The law MachineMemory: the code of its texts, by the executor: the runs.
-/
import Derived.Test.YtoehlmiadiiimaaGreatDoorMacT
namespace Go.Proofs.YtoehlmiadiiimaaGreatDoor
open Go.ChangeShapes Go.WideShapes Go.RowKit Go.Proofs.YtoehlmiadiiimaaGreatDoor.Ex

/- the texts' code -/
def codeM : Nat → List Int
  | 0 => [35, 0, 182, 0, 3, 69, 6, 0, 115, 0, 0, 0]
  | 1 => [35, 16, 182, 0, 3, 85, 6, 0, 115, 0, 0, 0]
  | 2 => [35, 32, 182, 0, 3, 101, 6, 0, 115, 0, 0, 0]
  | _ => [35, 48, 182, 0, 3, 53, 6, 0, 115, 0, 0, 0]
def memM (j : Nat) : List Int := codeM j ++ List.replicate 48 0
theorem memM_len (j : Nat) : (memM j).length = 60 := by
  unfold memM codeM
  split <;> rfl
def textM : Nat → List Nat
  | 0 => [115, 98, 32, 97, 49, 44, 32, 40, 97, 50, 41, 10, 108, 98, 117, 32, 97, 48, 44, 32, 40, 97, 50, 41, 10, 101, 99, 97, 108, 108]
  | 1 => [115, 104, 32, 97, 49, 44, 32, 40, 97, 50, 41, 10, 108, 104, 117, 32, 97, 48, 44, 32, 40, 97, 50, 41, 10, 101, 99, 97, 108, 108]
  | 2 => [115, 119, 32, 97, 49, 44, 32, 40, 97, 50, 41, 10, 108, 119, 117, 32, 97, 48, 44, 32, 40, 97, 50, 41, 10, 101, 99, 97, 108, 108]
  | _ => [115, 100, 32, 97, 49, 44, 32, 40, 97, 50, 41, 10, 108, 100, 32, 97, 48, 44, 32, 40, 97, 50, 41, 10, 101, 99, 97, 108, 108]
def bytesA (l : List Int) : List AV := l.map (AV.int .u8)
abbrev F0 : Fa := ⟨[], [], []⟩
noncomputable def codeK (l : List Int) (v : AV) (H : AHeap) : Bool :=
  match v with
  | .tup [.sl b o n c, .bool true] => match @aappend Tryz.prog 13 H 24 (.sl b o n c) (.int .i64 48) true with
    | some (.sl b' o' n' _, H') => match H'.get b' with
      | some (.cells cs _ _) => Nat.beq n' 60 && (Nat.beq o' 0 && AV.eqbs cs (bytesA l))
      | _ => false
    | _ => false
  | _ => false
noncomputable def codeR (j : Nat) (ts : Nat → TypeId) : Bool :=
  match acallT Tryz.prog (o184 F0) (@execT F0.dec Tryz.prog 13 (o184 F0) 10000) 13 26 [.str (textM j)] (heapG vars 13 ts) (fun v H => some (v, H)) with
  | some (v, H) => codeK (memM j) v H
  | none => false
theorem codeR0 : (fun ts => codeR 0 ts) = fun _ => true := by kernel_rfl
theorem codeR1 : (fun ts => codeR 1 ts) = fun _ => true := by kernel_rfl
theorem codeR2 : (fun ts => codeR 2 ts) = fun _ => true := by kernel_rfl
theorem codeR3 : (fun ts => codeR 3 ts) = fun _ => true := by kernel_rfl
theorem codeR_all (j : Nat) (hj : j < 4) : (fun ts => codeR j ts) = fun _ => true := by
  have h : ∀ j, j < 4 → j = 0 ∨ j = 1 ∨ j = 2 ∨ j = 3 := fun j hj => by omega
  rcases h j hj with rfl | rfl | rfl | rfl
  · exact codeR0
  · exact codeR1
  · exact codeR2
  · exact codeR3
end Go.Proofs.YtoehlmiadiiimaaGreatDoor
