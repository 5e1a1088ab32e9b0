import Derived.Test.YtklenhohljeacaaDoorEncU
/-
  Half words: by which row a half word is read: the kernel's checks, part 1.
-/
namespace Go.Proofs.YtklenhohljeacaaDoor.Ex
theorem idx0 : idxRow masksL 0 = true := by kernel_rfl
theorem idx1 : idxRow masksL 1 = true := by kernel_rfl
theorem idx2 : idxRow masksL 2 = true := by kernel_rfl
theorem idx3 : idxRow masksL 3 = true := by kernel_rfl
theorem idx4 : idxRow masksL 4 = true := by kernel_rfl
end Go.Proofs.YtklenhohljeacaaDoor.Ex

/-
  Half words: by which row a half word is read: the kernel's checks, part 2.
-/
namespace Go.Proofs.YtklenhohljeacaaDoor.Ex
theorem idx5 : idxRow masksL 5 = true := by kernel_rfl
theorem idx6 : idxRow masksL 6 = true := by kernel_rfl
theorem idx7 : idxRow masksL 7 = true := by kernel_rfl
theorem idx8 : idxRow masksL 8 = true := by kernel_rfl
theorem idx9 : idxRow masksL 9 = true := by kernel_rfl
theorem idx10 : idxRow masksL 10 = true := by kernel_rfl
theorem idx11 : idxRow masksL 11 = true := by kernel_rfl
end Go.Proofs.YtklenhohljeacaaDoor.Ex

/-
  Half words: by which row a half word is read: the kernel's checks, part 3.
-/
namespace Go.Proofs.YtklenhohljeacaaDoor.Ex
theorem idx12 : idxRow masksL 12 = true := by kernel_rfl
theorem idx13 : idxRow masksL 13 = true := by kernel_rfl
theorem idx14 : idxRow masksL 14 = true := by kernel_rfl
theorem idx15 : idxRow masksL 15 = true := by kernel_rfl
theorem idx16 : idxRow masksL 16 = true := by kernel_rfl
theorem idx17 : idxRow masksL 17 = true := by kernel_rfl
theorem idx18 : idxRow masksL 18 = true := by kernel_rfl
theorem idx19 : idxRow masksL 19 = true := by kernel_rfl
theorem idx20 : idxRow masksL 20 = true := by kernel_rfl
theorem idx21 : idxRow masksL 21 = true := by kernel_rfl
end Go.Proofs.YtklenhohljeacaaDoor.Ex

/-
  Half words: by which row a half word is read: the kernel's checks, part 4.
-/
namespace Go.Proofs.YtklenhohljeacaaDoor.Ex
theorem idx22 : idxRow masksL 22 = true := by kernel_rfl
theorem idx23 : idxRow masksL 23 = true := by kernel_rfl
theorem idx24 : idxRow masksL 24 = true := by kernel_rfl
theorem idx25 : idxRow masksL 25 = true := by kernel_rfl
theorem idx26 : idxRow masksL 26 = true := by kernel_rfl
theorem idx27 : idxRow masksL 27 = true := by kernel_rfl
theorem idx28 : idxRow masksL 28 = true := by kernel_rfl
theorem idx29 : idxRow masksL 29 = true := by kernel_rfl
theorem idx30 : idxRow masksL 30 = true := by kernel_rfl
theorem idx31 : idxRow masksL 31 = true := by kernel_rfl
theorem idx32 : idxRow masksL 32 = true := by kernel_rfl
end Go.Proofs.YtklenhohljeacaaDoor.Ex

/-
  Half words: by which row a half word is read: all rows.
-/
namespace Go.Proofs.YtklenhohljeacaaDoor.Ex
theorem idx_all : ∀ k, k < 33 → idxRow masksL k = true := by
  intro k hk
  have h : k = 0 ∨ k = 1 ∨ k = 2 ∨ k = 3 ∨ k = 4 ∨ k = 5 ∨ k = 6 ∨ k = 7 ∨ k = 8 ∨ k = 9 ∨ k = 10 ∨ k = 11 ∨ k = 12 ∨ k = 13 ∨ k = 14 ∨ k = 15 ∨ k = 16 ∨ k = 17 ∨ k = 18 ∨ k = 19 ∨ k = 20 ∨ k = 21 ∨ k = 22 ∨ k = 23 ∨ k = 24 ∨ k = 25 ∨ k = 26 ∨ k = 27 ∨ k = 28 ∨ k = 29 ∨ k = 30 ∨ k = 31 ∨ k = 32 := by omega
  rcases h with rfl | rfl | rfl | rfl | rfl | rfl | rfl | rfl | rfl | rfl | rfl | rfl | rfl | rfl | rfl | rfl | rfl | rfl | rfl | rfl | rfl | rfl | rfl | rfl | rfl | rfl | rfl | rfl | rfl | rfl | rfl | rfl | rfl
  · exact idx0
  · exact idx1
  · exact idx2
  · exact idx3
  · exact idx4
  · exact idx5
  · exact idx6
  · exact idx7
  · exact idx8
  · exact idx9
  · exact idx10
  · exact idx11
  · exact idx12
  · exact idx13
  · exact idx14
  · exact idx15
  · exact idx16
  · exact idx17
  · exact idx18
  · exact idx19
  · exact idx20
  · exact idx21
  · exact idx22
  · exact idx23
  · exact idx24
  · exact idx25
  · exact idx26
  · exact idx27
  · exact idx28
  · exact idx29
  · exact idx30
  · exact idx31
  · exact idx32
end Go.Proofs.YtklenhohljeacaaDoor.Ex

