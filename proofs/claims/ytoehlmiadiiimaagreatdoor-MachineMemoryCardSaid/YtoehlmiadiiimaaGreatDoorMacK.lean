/-
  The machine's laws: the laid variables are thirteen blocks.
-/
import Derived.Test.YtoehlmiadiiimaaGreatDoorMacL
namespace Go.Proofs.YtoehlmiadiiimaaGreatDoor
open Go.Proofs.YtoehlmiadiiimaaGreatDoor.Ex
theorem laids_size {l : List (String × DataW Unit)} (hl : Laids l) {W : World} (h : laidMetH Tryz.prog l W) : 13 ≤ W.heap.size := by
  obtain ⟨C, T, hC, -⟩ := laid_block h hl.no hl.m12 (L := dParts Rows.laid_math_bits_deBruijn64tab) rfl (g := 12) (t := 373) (n := 64) (e := 5) (by kernel_rfl) (by kernel_rfl) (by kernel_rfl) (.inr ⟨.u8, by kernel_rfl⟩) (by kernel_rfl) (by kernel_rfl) (by decide)
  have := (Array.getElem?_eq_some_iff.1 hC).1
  omega
end Go.Proofs.YtoehlmiadiiimaaGreatDoor
