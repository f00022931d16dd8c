/- Calls, run by the kernel (75525 operations). -/
import Derived.Test.YtpiopkgjbnlhcaaGreatDoorEEvTab
import Derived.Test.YtpiopkgjbnlhcaaGreatDoorEvRen
namespace Go.Ev
open Go.Proofs
set_option maxRecDepth 100000
theorem s23_4_is : isSum E3 100000000 nx0 23 s23_4 = true := by kernel_rfl
theorem s23_5_is : isSum E3 100000000 nx0 23 s23_5 = true := by kernel_rfl
theorem s23_6_is : isSum E3 100000000 nx0 23 s23_6 = true := by kernel_rfl
theorem s11_0_is : isSum E4 100000000 nx0 11 s11_0 = true := by kernel_rfl
theorem s11_1_is : isSum E4 100000000 nx0 11 s11_1 = true := by kernel_rfl
theorem s11_2_is : isSum E4 100000000 nx0 11 s11_2 = true := by kernel_rfl
end Go.Ev
