/- Calls, run by the kernel (52322 operations). -/
import Derived.Test.YtpiopkgjbnlhcaaGreatDoorEEvTab
import Derived.Test.YtpiopkgjbnlhcaaGreatDoorEvRen
namespace Go.Ev
open Go.Proofs
set_option maxRecDepth 100000
theorem m164_is : isMemo E7 100000000 21 m164 = true := by kernel_rfl
theorem m165_is : isMemo E7 100000000 21 m165 = true := by kernel_rfl
end Go.Ev
