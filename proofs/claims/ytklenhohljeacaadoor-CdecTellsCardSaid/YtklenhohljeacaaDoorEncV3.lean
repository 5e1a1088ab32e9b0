/-
  Half words: the document's reading of a half word, in the door program's own numbers.
-/
import Derived.Test.YtklenhohljeacaaDoorEncV1
import Derived.Test.YtklenhohljeacaaDoorEncD5
import Derived.Test.YtklenhohljeacaaDoorEncV23
namespace Go.Proofs.YtklenhohljeacaaDoor
open Go.Proofs.YtklenhohljeacaaDoor.Ex
theorem writs (r : RowL) (hr : r ∈ rowsL) : (fun e t => (brT (fun N => valA (sumT r N)) r).ok (runO Tryd.prog (fun _ => noOrc) 10000 46 [rowA r, symI] (cellsA r.places) e t) ⟨[], [], []⟩) = fun _ _ => true := by
  funext e t
  refine grp_mem (q := fun r => (brT (fun N => valA (sumT r N)) r).ok (runO Tryd.prog (fun _ => noOrc) 10000 46 [rowA r, symI] (cellsA r.places) e t) ⟨[], [], []⟩ = true) (fun k hk r hr => ?_) r hr
  have h : k = 0 ∨ k = 1 ∨ k = 2 ∨ k = 3 ∨ k = 4 ∨ k = 5 ∨ k = 6 ∨ k = 7 ∨ k = 8 := by omega
  rcases h with rfl | rfl | rfl | rfl | rfl | rfl | rfl | rfl | rfl
  · exact List.all_eq_true.1 (congrFun (congrFun writ0 e) t) r hr
  · exact List.all_eq_true.1 (congrFun (congrFun writ1 e) t) r hr
  · exact List.all_eq_true.1 (congrFun (congrFun writ2 e) t) r hr
  · exact List.all_eq_true.1 (congrFun (congrFun writ3 e) t) r hr
  · exact List.all_eq_true.1 (congrFun (congrFun writ4 e) t) r hr
  · exact List.all_eq_true.1 (congrFun (congrFun writ5 e) t) r hr
  · exact List.all_eq_true.1 (congrFun (congrFun writ6 e) t) r hr
  · exact List.all_eq_true.1 (congrFun (congrFun writ7 e) t) r hr
  · exact List.all_eq_true.1 (congrFun (congrFun writ8 e) t) r hr
theorem writ : WritC Tryd.prog 46 := writC_of mixed sums_all stands_all nums_all writs
def refN : RefF := ⟨38, 39, 40, 41, 44, 45, 46⟩
theorem refC : RefC Tryd.prog refN tab40 := by
  have k := tab_of mixed orc55 told40
  exact ⟨both, mask, k.1, k.2, gath, right, fits, writ⟩
theorem of_no : (fun e t => rowsL.all fun r => [false, true].all fun up => (Tr.leaf (.tup [zeroX, .bool false])).ok (runO Tryd.prog (orcX refN tab40 r up) 10000 22 [rowA r, .sint .u16 (.var 0)] (cellsA r.places) e t) (factN r)) = fun _ _ => true := by kernel_rfl
theorem of_yes : (fun e t => rowsL.all fun r => (ofTr r false).ok (runO Tryd.prog (orcX refN tab40 r false) 10000 22 [rowA r, .sint .u16 (.var 0)] (cellsA r.places) e t) (factX' r false)) = fun _ _ => true := by kernel_rfl
theorem of_up : (fun e t => rowsL.all fun r => !(signed r) || (ofTr r true).ok (runO Tryd.prog (orcX refN tab40 r true) 10000 22 [rowA r, .sint .u16 (.var 0)] (cellsA r.places) e t) (factX' r true)) = fun _ _ => true := by kernel_rfl
theorem or_of {a b : Bool} (h : (!a || b) = true) (ha : a = true) : b = true := by subst ha; exact h
theorem ofC : OfC Tryd.prog 22 := by
  refine ofC_of mixed refC (fun r hr => ?_) (fun r hr up hu => ?_) (fun r hr => ?_)
  · funext e t
    have := List.all_eq_true.1 (congrFun (congrFun of_no e) t) r hr
    exact List.all_eq_true.1 this false (by simp)
  · funext e t
    cases up with
    | false => exact List.all_eq_true.1 (congrFun (congrFun of_yes e) t) r hr
    | true =>
      have := List.all_eq_true.1 (congrFun (congrFun of_up e) t) r hr
      exact or_of this (by simpa using hu)
  · funext e t
    have := List.all_eq_true.1 (congrFun (congrFun of_no e) t) r hr
    exact List.all_eq_true.1 this true (by simp)
theorem doc : InsnC Laid2 Tryd.prog 14 := fun h hh w _ => docC_of mixed ofC (by kernel_rfl) h hh w
end Go.Proofs.YtklenhohljeacaaDoor
