/- Calls of function 188, run by the kernel. -/
import Derived.Test.YtjjienfhbfdaiaaGreatDoorEvTab
namespace Go.Ev
open Go.Proofs
set_option maxRecDepth 100000
theorem s188_0_is : isSum E0 100000000 nx0 188 s188_0 = true := by kernel_rfl
theorem s188_1_is : isSum E0 100000000 nx0 188 s188_1 = true := by kernel_rfl
theorem s188_2_is : isSum E0 100000000 nx0 188 s188_2 = true := by kernel_rfl
theorem s188_3_is : isSum E0 100000000 nx0 188 s188_3 = true := by kernel_rfl
theorem s188_4_is : isSum E0 100000000 nx0 188 s188_4 = true := by kernel_rfl
end Go.Ev
