/-
  The chapter's examples.
-/
import Derived.Test.YtkbelkdephfhpaaI16
import Derived.Test.YtkbelkdephfhpaaI17
namespace Go.Proofs.Ytkbelkdephfhpaa
open Go.RowKit

theorem ex1 : infP 9 [75, 4, 0] = .ok ([97], 3) := by kernel_rfl
theorem ex2 : infP 10 [75, 132, 3, 0] = .ok ([97, 97, 97, 97, 97, 97, 97, 97, 97, 97], 4) := by kernel_rfl
theorem ex3 : infP 9 [75, 132, 3, 0] = .error 3 := by kernel_rfl
theorem ex4 : infP 0 [1, 0, 0, 255, 255] = .ok ([], 5) := by kernel_rfl
theorem ex5 : infP 0 [0, 0, 0, 255, 255] = .error 5 := by kernel_rfl
theorem ex6 : infP 0 [7] = .error 4 := by kernel_rfl
theorem ex7 : zliP 1 [120, 156, 75, 4, 0, 0, 98, 0, 98] = .ok [97] := by kernel_rfl
theorem ex8 : lenP [2, 1, 3, 3] = .ok [2, 0, 6, 7] := by kernel_rfl
theorem ex9 : lenP [1, 1, 1] = .error 4 := by kernel_rfl
end Go.Proofs.Ytkbelkdephfhpaa
