/- Calls, run by the kernel (53974 operations). -/
import Derived.Test.YtpiopkgjbnlhcaaGreatDoorEEvTab
import Derived.Test.YtpiopkgjbnlhcaaGreatDoorEvRen
namespace Go.Ev
open Go.Proofs
set_option maxRecDepth 100000
theorem s53_0_is : isSum E2 100000000 nx0 53 s53_0 = true := by kernel_rfl
theorem s53_1_is : isSum E2 100000000 nx0 53 s53_1 = true := by kernel_rfl
theorem s53_2_is : isSum E2 100000000 nx0 53 s53_2 = true := by kernel_rfl
end Go.Ev
