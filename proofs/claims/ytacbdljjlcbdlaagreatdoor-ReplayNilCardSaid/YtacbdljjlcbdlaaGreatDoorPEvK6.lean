/- Calls, run by the kernel (74504 operations). -/
import Derived.Test.YtacbdljjlcbdlaaGreatDoorPEvTab
import Derived.Test.YtacbdljjlcbdlaaGreatDoorEvMemo
namespace Go.Ev
open Go.Proofs
set_option maxRecDepth 100000
theorem m43_is : isMemo U43 100000000 50 m43 = true := by kernel_rfl
theorem m44_is : isMemo E5 100000000 22 m44 = true := by kernel_rfl
theorem m45_is : isMemo E5 100000000 49 m45 = true := by kernel_rfl
end Go.Ev
