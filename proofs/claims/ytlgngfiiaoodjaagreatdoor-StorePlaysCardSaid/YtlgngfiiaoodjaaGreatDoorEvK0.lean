/- Calls, run by the kernel (128131 operations). -/
import Derived.Test.YtlgngfiiaoodjaaGreatDoorEvTab
import Derived.Test.YtlgngfiiaoodjaaGreatDoorEvMemos
namespace Go.Ev
open Go.Proofs
set_option maxRecDepth 100000
theorem s157_0_is : isSum E0 100000000 nx0 157 s157_0 = true := by kernel_rfl
theorem s157_1_is : isSum E0 100000000 nx0 157 s157_1 = true := by kernel_rfl
theorem s157_2_is : isSum E0 100000000 nx0 157 s157_2 = true := by kernel_rfl
theorem s59_0_is : isSum E1 100000000 nx0 59 s59_0 = true := by kernel_rfl
theorem s40_0_is : isSum E2 100000000 nx0 40 s40_0 = true := by kernel_rfl
theorem s24_0_is : isSum U13 100000000 nx0 24 s24_0 = true := by kernel_rfl
theorem s9_0_is : isSum E4 100000000 nx0 9 s9_0 = true := by kernel_rfl
end Go.Ev
