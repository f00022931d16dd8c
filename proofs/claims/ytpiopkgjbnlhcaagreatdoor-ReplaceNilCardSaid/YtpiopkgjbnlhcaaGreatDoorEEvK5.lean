/- Calls, run by the kernel (46700 operations). -/
import Derived.Test.YtpiopkgjbnlhcaaGreatDoorEEvTab
import Derived.Test.YtpiopkgjbnlhcaaGreatDoorEvRen
namespace Go.Ev
open Go.Proofs
set_option maxRecDepth 100000
theorem s11_3_is : isSum E4 100000000 nx0 11 s11_3 = true := by kernel_rfl
theorem s11_4_is : isSum E4 100000000 nx0 11 s11_4 = true := by kernel_rfl
theorem s11_5_is : isSum E4 100000000 nx0 11 s11_5 = true := by kernel_rfl
end Go.Ev
