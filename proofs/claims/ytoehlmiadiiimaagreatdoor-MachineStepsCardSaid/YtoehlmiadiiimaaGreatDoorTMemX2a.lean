/-
  Half words: what the document writes, in the door program's own numbers, part 1.
-/
import Derived.Test.YtoehlmiadiiimaaGreatDoorTMacT
import Derived.Test.YtoehlmiadiiimaaGreatDoorTEncU9
namespace Go.Proofs.YtoehlmiadiiimaaGreatDoor
open Go.Proofs.YtoehlmiadiiimaaGreatDoor.Ex
theorem writ0:(fun e t=>(grp 0).all fun r=>(brT (fun N=>valA (sumT r N)) r).ok (runO Tryz.prog (fun _=>noOrc) 10000 161 [rowA r,symI] (cellsA r.places) e t) ⟨[],[],[]⟩)=fun _ _=>true:=by kernel_rfl
theorem writ1:(fun e t=>(grp 1).all fun r=>(brT (fun N=>valA (sumT r N)) r).ok (runO Tryz.prog (fun _=>noOrc) 10000 161 [rowA r,symI] (cellsA r.places) e t) ⟨[],[],[]⟩)=fun _ _=>true:=by kernel_rfl
theorem writ2:(fun e t=>(grp 2).all fun r=>(brT (fun N=>valA (sumT r N)) r).ok (runO Tryz.prog (fun _=>noOrc) 10000 161 [rowA r,symI] (cellsA r.places) e t) ⟨[],[],[]⟩)=fun _ _=>true:=by kernel_rfl
end Go.Proofs.YtoehlmiadiiimaaGreatDoor
