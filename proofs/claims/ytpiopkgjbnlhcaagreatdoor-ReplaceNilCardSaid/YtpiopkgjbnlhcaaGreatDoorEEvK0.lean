/- Calls, run by the kernel (63800 operations). -/
import Derived.Test.YtpiopkgjbnlhcaaGreatDoorEEvTab
import Derived.Test.YtpiopkgjbnlhcaaGreatDoorEvRen
namespace Go.Ev
open Go.Proofs
set_option maxRecDepth 100000
theorem s168_0_is : isSum E0 100000000 nx0 168 s168_0 = true := by kernel_rfl
theorem s168_1_is : isSum E0 100000000 nx0 168 s168_1 = true := by kernel_rfl
theorem s168_2_is : isSum E0 100000000 nx0 168 s168_2 = true := by kernel_rfl
theorem s168_3_is : isSum E0 100000000 nx0 168 s168_3 = true := by kernel_rfl
theorem s168_4_is : isSum E0 100000000 nx0 168 s168_4 = true := by kernel_rfl
theorem s168_5_is : isSum E0 100000000 nx0 168 s168_5 = true := by kernel_rfl
theorem s168_6_is : isSum E0 100000000 nx0 168 s168_6 = true := by kernel_rfl
theorem s145_0_is : isSum E1 100000000 nx0 145 s145_0 = true := by kernel_rfl
theorem s145_1_is : isSum E1 100000000 nx0 145 s145_1 = true := by kernel_rfl
theorem s145_2_is : isSum E1 100000000 nx0 145 s145_2 = true := by kernel_rfl
end Go.Ev
