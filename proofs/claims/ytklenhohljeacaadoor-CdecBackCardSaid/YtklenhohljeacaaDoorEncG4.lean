/-
  Half words: what is read of a short form is the instruction, row by row.
-/
import Derived.Test.YtklenhohljeacaaDoorEncR
namespace Go.Proofs.YtklenhohljeacaaDoor.Ex
theorem raws7 : ((grp 7).all fun r => allRow (rawP r) r) = true := by kernel_rfl
theorem raws8 : ((grp 8).all fun r => allRow (rawP r) r) = true := by kernel_rfl
end Go.Proofs.YtklenhohljeacaaDoor.Ex
