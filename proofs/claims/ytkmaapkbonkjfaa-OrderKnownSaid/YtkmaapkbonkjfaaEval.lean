/- The examples of the layer order, computed. -/
import Derived.Test.YtkmaapkbonkjfaaSmall
import Derived.KernelRfl
namespace Go.Proofs.Ytkmaapkbonkjfaa

theorem xv_err : errOf shopX = 0 := by kernel_rfl
theorem xl_0123 : lateF shopX [0, 1, 2, 3] = (3, 5, 0) := by kernel_rfl
theorem xn_012 : neededF shopX [0, 1, 2] = ([1, 3], 0) := by kernel_rfl
theorem xp_012 : planF shopX [0, 1, 2] = ([(0, 0), (1, 1), (1, 1), (1, 3)], 0) := by kernel_rfl
theorem xk_012_1 : keptF shopX [0, 1, 2] 1 = ([0, 2, 2, 4, 1], 0) := by kernel_rfl
theorem xd_123_1_3 : promiseF shopX [1, 2, 3] 1 3 = (4, 0) := by kernel_rfl
theorem xd_123_0_3 : promiseF shopX [1, 2, 3] 0 3 = (0, 9) := by kernel_rfl
theorem xb : bestF shopX = ([1, 2, 3], 220, 0) := by kernel_rfl
theorem xc_1 : costsF shopX 1 = (30, 0) := by kernel_rfl
theorem xl_01 : lateF shopX [0, 1] = (0, 0, 4) := by kernel_rfl
theorem xl_023 : lateF shopX [0, 2, 3] = (4, 2, 0) := by kernel_rfl
theorem xk_012_0 : keptF shopX [0, 1, 2] 0 = ([5, 0, 0, 0, 0], 0) := by kernel_rfl
theorem xd_123_1_2 : promiseF shopX [1, 2, 3] 1 2 = (0, 0) := by kernel_rfl
theorem xc_0 : costsF shopX 0 = (110, 0) := by kernel_rfl
theorem xc_2 : costsF shopX 2 = (60, 0) := by kernel_rfl
theorem xc_3 : costsF shopX 3 = (100, 0) := by kernel_rfl
end Go.Proofs.Ytkmaapkbonkjfaa
