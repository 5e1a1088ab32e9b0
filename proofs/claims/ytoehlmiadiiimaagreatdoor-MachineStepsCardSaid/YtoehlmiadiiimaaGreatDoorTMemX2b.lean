/-
  Half words: what the document writes, in the door program's own numbers, part 2.
-/
import Derived.Test.YtoehlmiadiiimaaGreatDoorTMacT
import Derived.Test.YtoehlmiadiiimaaGreatDoorTEncU9
namespace Go.Proofs.YtoehlmiadiiimaaGreatDoor
open Go.Proofs.YtoehlmiadiiimaaGreatDoor.Ex
theorem writ3:(fun e t=>(grp 3).all fun r=>(brT (fun N=>valA (sumT r N)) r).ok (runO Tryz.prog (fun _=>noOrc) 10000 161 [rowA r,symI] (cellsA r.places) e t) ⟨[],[],[]⟩)=fun _ _=>true:=by kernel_rfl
theorem writ4:(fun e t=>(grp 4).all fun r=>(brT (fun N=>valA (sumT r N)) r).ok (runO Tryz.prog (fun _=>noOrc) 10000 161 [rowA r,symI] (cellsA r.places) e t) ⟨[],[],[]⟩)=fun _ _=>true:=by kernel_rfl
theorem writ5:(fun e t=>(grp 5).all fun r=>(brT (fun N=>valA (sumT r N)) r).ok (runO Tryz.prog (fun _=>noOrc) 10000 161 [rowA r,symI] (cellsA r.places) e t) ⟨[],[],[]⟩)=fun _ _=>true:=by kernel_rfl
end Go.Proofs.YtoehlmiadiiimaaGreatDoor
