/- Calls, run by the kernel (78990 operations). -/
import Derived.Test.YtpiopkgjbnlhcaaGreatDoorEEvTab
import Derived.Test.YtpiopkgjbnlhcaaGreatDoorEvRen
namespace Go.Ev
open Go.Proofs
set_option maxRecDepth 100000
theorem s53_3_is : isSum E2 100000000 nx0 53 s53_3 = true := by kernel_rfl
theorem s53_4_is : isSum E2 100000000 nx0 53 s53_4 = true := by kernel_rfl
theorem s53_5_is : isSum E2 100000000 nx0 53 s53_5 = true := by kernel_rfl
end Go.Ev
