/-
  Half words: what the program reads of a short form is the instruction: all rows.
-/
import Derived.Test.YtklenhohljeacaaDoorEncG1
import Derived.Test.YtklenhohljeacaaDoorEncG2
import Derived.Test.YtklenhohljeacaaDoorEncG3
import Derived.Test.YtklenhohljeacaaDoorEncG4
import Derived.Test.YtklenhohljeacaaDoorEncI2
namespace Go.Proofs.YtklenhohljeacaaDoor.Ex
theorem raws_all : ∀ r ∈ rowsL, (fun r => allRow (rawP r) r = true) r := by
  refine grp_mem fun k hk r hr => ?_
  match k, hk with
  | 0, _ => exact List.all_eq_true.1 raws0 r hr
  | 1, _ => exact List.all_eq_true.1 raws1 r hr
  | 2, _ => exact List.all_eq_true.1 raws2 r hr
  | 3, _ => exact List.all_eq_true.1 raws3 r hr
  | 4, _ => exact List.all_eq_true.1 raws4 r hr
  | 5, _ => exact List.all_eq_true.1 raws5 r hr
  | 6, _ => exact List.all_eq_true.1 raws6 r hr
  | 7, _ => exact List.all_eq_true.1 raws7 r hr
  | 8, _ => exact List.all_eq_true.1 raws8 r hr
end Go.Proofs.YtklenhohljeacaaDoor.Ex
