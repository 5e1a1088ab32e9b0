import Derived.Test.YtklenhohljeacaaDoorEncD3
import Derived.Test.YtklenhohljeacaaDoorEncU9
/-
  Half words: what the document writes, in the door program's own numbers, part 1.
-/
namespace Go.Proofs.YtklenhohljeacaaDoor
open Go.Proofs.YtklenhohljeacaaDoor.Ex
theorem writ0 : (fun e t => (grp 0).all fun r => (brT (fun N => valA (sumT r N)) r).ok (runO Tryd.prog (fun _ => noOrc) 10000 46 [rowA r, symI] (cellsA r.places) e t) ⟨[], [], []⟩) = fun _ _ => true := by kernel_rfl
theorem writ1 : (fun e t => (grp 1).all fun r => (brT (fun N => valA (sumT r N)) r).ok (runO Tryd.prog (fun _ => noOrc) 10000 46 [rowA r, symI] (cellsA r.places) e t) ⟨[], [], []⟩) = fun _ _ => true := by kernel_rfl
theorem writ2 : (fun e t => (grp 2).all fun r => (brT (fun N => valA (sumT r N)) r).ok (runO Tryd.prog (fun _ => noOrc) 10000 46 [rowA r, symI] (cellsA r.places) e t) ⟨[], [], []⟩) = fun _ _ => true := by kernel_rfl
end Go.Proofs.YtklenhohljeacaaDoor

/-
  Half words: what the document writes, in the door program's own numbers, part 2.
-/
namespace Go.Proofs.YtklenhohljeacaaDoor
open Go.Proofs.YtklenhohljeacaaDoor.Ex
theorem writ3 : (fun e t => (grp 3).all fun r => (brT (fun N => valA (sumT r N)) r).ok (runO Tryd.prog (fun _ => noOrc) 10000 46 [rowA r, symI] (cellsA r.places) e t) ⟨[], [], []⟩) = fun _ _ => true := by kernel_rfl
theorem writ4 : (fun e t => (grp 4).all fun r => (brT (fun N => valA (sumT r N)) r).ok (runO Tryd.prog (fun _ => noOrc) 10000 46 [rowA r, symI] (cellsA r.places) e t) ⟨[], [], []⟩) = fun _ _ => true := by kernel_rfl
theorem writ5 : (fun e t => (grp 5).all fun r => (brT (fun N => valA (sumT r N)) r).ok (runO Tryd.prog (fun _ => noOrc) 10000 46 [rowA r, symI] (cellsA r.places) e t) ⟨[], [], []⟩) = fun _ _ => true := by kernel_rfl
end Go.Proofs.YtklenhohljeacaaDoor

/-
  Half words: what the document writes, in the door program's own numbers, part 3.
-/
namespace Go.Proofs.YtklenhohljeacaaDoor
open Go.Proofs.YtklenhohljeacaaDoor.Ex
theorem writ6 : (fun e t => (grp 6).all fun r => (brT (fun N => valA (sumT r N)) r).ok (runO Tryd.prog (fun _ => noOrc) 10000 46 [rowA r, symI] (cellsA r.places) e t) ⟨[], [], []⟩) = fun _ _ => true := by kernel_rfl
theorem writ7 : (fun e t => (grp 7).all fun r => (brT (fun N => valA (sumT r N)) r).ok (runO Tryd.prog (fun _ => noOrc) 10000 46 [rowA r, symI] (cellsA r.places) e t) ⟨[], [], []⟩) = fun _ _ => true := by kernel_rfl
theorem writ8 : (fun e t => (grp 8).all fun r => (brT (fun N => valA (sumT r N)) r).ok (runO Tryd.prog (fun _ => noOrc) 10000 46 [rowA r, symI] (cellsA r.places) e t) ⟨[], [], []⟩) = fun _ _ => true := by kernel_rfl
end Go.Proofs.YtklenhohljeacaaDoor

