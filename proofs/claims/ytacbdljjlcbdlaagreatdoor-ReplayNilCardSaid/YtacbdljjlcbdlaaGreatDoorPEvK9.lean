/- Calls, run by the kernel (74388 operations). -/
import Derived.Test.YtacbdljjlcbdlaaGreatDoorPEvTab
import Derived.Test.YtacbdljjlcbdlaaGreatDoorEvMemo
namespace Go.Ev
open Go.Proofs
set_option maxRecDepth 100000
theorem m56_is : isMemo U56 100000000 48 m56 = true := by kernel_rfl
theorem m57_is : isMemo E5 100000000 22 m57 = true := by kernel_rfl
theorem m58_is : isMemo E5 100000000 62 m58 = true := by kernel_rfl
theorem m59_is : isMemo E5 100000000 62 m59 = true := by kernel_rfl
end Go.Ev
