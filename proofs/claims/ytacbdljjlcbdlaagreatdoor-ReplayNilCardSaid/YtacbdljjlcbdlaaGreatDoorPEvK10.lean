/- Calls, run by the kernel (74388 operations). -/
import Derived.Test.YtacbdljjlcbdlaaGreatDoorPEvTab
import Derived.Test.YtacbdljjlcbdlaaGreatDoorEvMemo
namespace Go.Ev
open Go.Proofs
set_option maxRecDepth 100000
theorem m60_is : isMemo U60 100000000 48 m60 = true := by kernel_rfl
theorem m61_is : isMemo E5 100000000 22 m61 = true := by kernel_rfl
theorem m62_is : isMemo E5 100000000 62 m62 = true := by kernel_rfl
theorem m63_is : isMemo E5 100000000 62 m63 = true := by kernel_rfl
end Go.Ev
