/- Calls, run by the kernel (60036 operations). -/
import Derived.Test.YtpiopkgjbnlhcaaGreatDoorEEvTab
import Derived.Test.YtpiopkgjbnlhcaaGreatDoorEvRen
namespace Go.Ev
open Go.Proofs
set_option maxRecDepth 100000
theorem m162_is : isMemo E7 100000000 21 m162 = true := by kernel_rfl
theorem m163_is : isMemo E7 100000000 21 m163 = true := by kernel_rfl
end Go.Ev
