/-
  Half words: the document's reading of a half word, in the door program's own numbers.
-/
import Derived.Test.YtoehlmiadiiimaaGreatDoorTMemX1
import Derived.Test.YtoehlmiadiiimaaGreatDoorTMemX2a
import Derived.Test.YtoehlmiadiiimaaGreatDoorTMemX2b
import Derived.Test.YtoehlmiadiiimaaGreatDoorTMemX2c
namespace Go.Proofs.YtoehlmiadiiimaaGreatDoor
open Go.Proofs.YtoehlmiadiiimaaGreatDoor.Ex
theorem writs (r:RowL) (hr:r∈rowsL) : (fun e t=>(brT (fun N=>valA (sumT r N)) r).ok (runO Tryz.prog (fun _=>noOrc) 10000 161 [rowA r,symI] (cellsA r.places) e t) ⟨[],[],[]⟩)=fun _ _=>true:=by
 funext e t
 refine grp_mem (q:=fun r=>(brT (fun N=>valA (sumT r N)) r).ok (runO Tryz.prog (fun _=>noOrc) 10000 161 [rowA r,symI] (cellsA r.places) e t) ⟨[],[],[]⟩=true) (fun k hk r hr=>?_) r hr
 have h:k=0∨k=1∨k=2∨k=3∨k=4∨k=5∨k=6∨k=7∨k=8:=by omega
 rcases h with rfl | rfl | rfl | rfl | rfl | rfl | rfl | rfl | rfl
 ·exact List.all_eq_true.1 (congrFun (congrFun writ0 e) t) r hr
 ·exact List.all_eq_true.1 (congrFun (congrFun writ1 e) t) r hr
 ·exact List.all_eq_true.1 (congrFun (congrFun writ2 e) t) r hr
 ·exact List.all_eq_true.1 (congrFun (congrFun writ3 e) t) r hr
 ·exact List.all_eq_true.1 (congrFun (congrFun writ4 e) t) r hr
 ·exact List.all_eq_true.1 (congrFun (congrFun writ5 e) t) r hr
 ·exact List.all_eq_true.1 (congrFun (congrFun writ6 e) t) r hr
 ·exact List.all_eq_true.1 (congrFun (congrFun writ7 e) t) r hr
 ·exact List.all_eq_true.1 (congrFun (congrFun writ8 e) t) r hr
theorem writ:WritC Tryz.prog 161:=writC_of mixed sums_all stands_all nums_all writs
def refN:RefF:=⟨153,154,155,156,159,160,161⟩
theorem refC:RefC Tryz.prog refN tab155:=by
 have k:=tab_of mixed orc76 told155
 exact ⟨both,mask,k.1,k.2,gath,right,fits,writ⟩
theorem of_no:(fun e t=>rowsL.all fun r=>[false,true].all fun up=>(Tr.leaf (.tup [zeroX,.bool false])).ok (runO Tryz.prog (orcX refN tab155 r up) 10000 114 [rowA r,.sint .u16 (.var 0)] (cellsA r.places) e t) (factN r))=fun _ _=>true:=by kernel_rfl
theorem of_yes:(fun e t=>rowsL.all fun r=>(ofTr r false).ok (runO Tryz.prog (orcX refN tab155 r false) 10000 114 [rowA r,.sint .u16 (.var 0)] (cellsA r.places) e t) (factX' r false))=fun _ _=>true:=by kernel_rfl
theorem of_up:(fun e t=>rowsL.all fun r=>!(signed r) || (ofTr r true).ok (runO Tryz.prog (orcX refN tab155 r true) 10000 114 [rowA r,.sint .u16 (.var 0)] (cellsA r.places) e t) (factX' r true))=fun _ _=>true:=by kernel_rfl
theorem or_of {a b:Bool} (h:(!a || b)=true) (ha:a=true) : b=true:=by subst ha; exact h
theorem ofC:OfC Tryz.prog 114:=by
 refine ofC_of mixed refC (fun r hr=>?_) (fun r hr up hu=>?_) (fun r hr=>?_)
 ·funext e t
  have:=List.all_eq_true.1 (congrFun (congrFun of_no e) t) r hr
  exact List.all_eq_true.1 this false (by simp)
 ·funext e t
  cases up with
  | false=>exact List.all_eq_true.1 (congrFun (congrFun of_yes e) t) r hr
  | true =>
   have:=List.all_eq_true.1 (congrFun (congrFun of_up e) t) r hr
   exact or_of this (by simpa using hu)
 ·funext e t
  have:=List.all_eq_true.1 (congrFun (congrFun of_no e) t) r hr
  exact List.all_eq_true.1 this true (by simp)
theorem doc:InsnC LG Tryz.prog 74:=fun h hh w _=>docC_of mixed ofC (by kernel_rfl) h hh w
end Go.Proofs.YtoehlmiadiiimaaGreatDoor
