/- Calls, run by the kernel (74939 operations). -/
import Derived.Test.YtacbdljjlcbdlaaGreatDoorPEvTab
import Derived.Test.YtacbdljjlcbdlaaGreatDoorEvMemo
namespace Go.Ev
open Go.Proofs
set_option maxRecDepth 100000
theorem m52_is : isMemo U52 100000000 50 m52 = true := by kernel_rfl
theorem m53_is : isMemo E5 100000000 22 m53 = true := by kernel_rfl
theorem m54_is : isMemo E5 100000000 62 m54 = true := by kernel_rfl
theorem m55_is : isMemo E5 100000000 62 m55 = true := by kernel_rfl
end Go.Ev
