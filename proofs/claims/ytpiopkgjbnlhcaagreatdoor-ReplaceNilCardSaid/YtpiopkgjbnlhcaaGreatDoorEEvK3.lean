/- Calls, run by the kernel (65784 operations). -/
import Derived.Test.YtpiopkgjbnlhcaaGreatDoorEEvTab
import Derived.Test.YtpiopkgjbnlhcaaGreatDoorEvRen
namespace Go.Ev
open Go.Proofs
set_option maxRecDepth 100000
theorem s53_6_is : isSum E2 100000000 nx0 53 s53_6 = true := by kernel_rfl
theorem s23_0_is : isSum E3 100000000 nx0 23 s23_0 = true := by kernel_rfl
theorem s23_1_is : isSum E3 100000000 nx0 23 s23_1 = true := by kernel_rfl
theorem s23_2_is : isSum E3 100000000 nx0 23 s23_2 = true := by kernel_rfl
theorem s23_3_is : isSum E3 100000000 nx0 23 s23_3 = true := by kernel_rfl
end Go.Ev
