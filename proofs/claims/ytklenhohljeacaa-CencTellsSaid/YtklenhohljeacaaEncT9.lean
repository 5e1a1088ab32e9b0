/-
  Short forms of instructions: the document's Half, in the program's own numbers: part 1.
-/
import Derived.Test.YtklenhohljeacaaEncT7
import Derived.Test.YtklenhohljeacaaEncT8
import Derived.Test.YtklenhohljeacaaEncW2
namespace Go.Proofs.Ytklenhohljeacaa
open Go.Proofs.Ytklenhohljeacaa.Ex
theorem find : FindC Try.prog 15 := by
  refine findC_of mixed right fits fun k hk => ?_
  by_cases h1 : k < 21
  · exact List.all_eq_true.1 find_a k (List.mem_range'_1.2 (by omega))
  · by_cases h2 : k < 22
    · exact List.all_eq_true.1 find_b k (List.mem_range'_1.2 (by omega))
    · by_cases h3 : k < 52
      · exact List.all_eq_true.1 find_c k (List.mem_range'_1.2 (by omega))
      · exact List.all_eq_true.1 find_d k (List.mem_range'_1.2 (by omega))
/-- Does Half answer as the rows have it, for a row? -/
noncomputable def rowOk (k : Nat) : Bool := match rowsL[k]? with
  | some r => (writTr r).ok (Go.Proofs.Ytklenhohljeacaa.Ex.runT Try.prog (orcB 14 15) 10000 0 10 [symI]) (FW (k : Nat))
  | none => true
theorem rows_a : ((List.range' 0 11).all rowOk) = true := by kernel_rfl
end Go.Proofs.Ytklenhohljeacaa
