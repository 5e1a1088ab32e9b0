/-
  Half words: what the document writes, in the door program's own numbers, part 3.
-/
import Derived.Test.YtoehlmiadiiimaaGreatDoorTMacT
import Derived.Test.YtoehlmiadiiimaaGreatDoorTEncU9
namespace Go.Proofs.YtoehlmiadiiimaaGreatDoor
open Go.Proofs.YtoehlmiadiiimaaGreatDoor.Ex
theorem writ6:(fun e t=>(grp 6).all fun r=>(brT (fun N=>valA (sumT r N)) r).ok (runO Tryz.prog (fun _=>noOrc) 10000 161 [rowA r,symI] (cellsA r.places) e t) ⟨[],[],[]⟩)=fun _ _=>true:=by kernel_rfl
theorem writ7:(fun e t=>(grp 7).all fun r=>(brT (fun N=>valA (sumT r N)) r).ok (runO Tryz.prog (fun _=>noOrc) 10000 161 [rowA r,symI] (cellsA r.places) e t) ⟨[],[],[]⟩)=fun _ _=>true:=by kernel_rfl
theorem writ8:(fun e t=>(grp 8).all fun r=>(brT (fun N=>valA (sumT r N)) r).ok (runO Tryz.prog (fun _=>noOrc) 10000 161 [rowA r,symI] (cellsA r.places) e t) ⟨[],[],[]⟩)=fun _ _=>true:=by kernel_rfl
end Go.Proofs.YtoehlmiadiiimaaGreatDoor
