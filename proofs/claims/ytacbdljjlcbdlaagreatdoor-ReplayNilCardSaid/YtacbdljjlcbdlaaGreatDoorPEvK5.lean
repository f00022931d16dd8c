/- Calls, run by the kernel (45216 operations). -/
import Derived.Test.YtacbdljjlcbdlaaGreatDoorPEvTab
import Derived.Test.YtacbdljjlcbdlaaGreatDoorEvMemo
namespace Go.Ev
open Go.Proofs
set_option maxRecDepth 100000
theorem m37_is : isMemo E5 100000000 49 m37 = true := by kernel_rfl
theorem m38_is : isMemo E5 100000000 49 m38 = true := by kernel_rfl
theorem m39_is : isMemo E5 100000000 49 m39 = true := by kernel_rfl
theorem m40_is : isMemo E5 100000000 49 m40 = true := by kernel_rfl
theorem m41_is : isMemo E5 100000000 49 m41 = true := by kernel_rfl
theorem m42_is : isMemo E5 100000000 49 m42 = true := by kernel_rfl
end Go.Ev
