/- Calls, run by the kernel (61302 operations). -/
import Derived.Test.YtpiopkgjbnlhcaaGreatDoorEEvTab
import Derived.Test.YtpiopkgjbnlhcaaGreatDoorEvRen
namespace Go.Ev
open Go.Proofs
set_option maxRecDepth 100000
theorem s11_6_is : isSum E4 100000000 nx0 11 s11_6 = true := by kernel_rfl
theorem s4_0_is : isSum E5 100000000 nx0 4 s4_0 = true := by kernel_rfl
theorem s4_1_is : isSum E5 100000000 nx0 4 s4_1 = true := by kernel_rfl
theorem s4_2_is : isSum E5 100000000 nx0 4 s4_2 = true := by kernel_rfl
theorem s4_3_is : isSum E5 100000000 nx0 4 s4_3 = true := by kernel_rfl
theorem s4_4_is : isSum E5 100000000 nx0 4 s4_4 = true := by kernel_rfl
theorem s4_5_is : isSum E5 100000000 nx0 4 s4_5 = true := by kernel_rfl
theorem s4_6_is : isSum E5 100000000 nx0 4 s4_6 = true := by kernel_rfl
theorem s5_0_is : isSum E6 100000000 nx0 5 s5_0 = true := by kernel_rfl
theorem s5_1_is : isSum E6 100000000 nx0 5 s5_1 = true := by kernel_rfl
end Go.Ev
