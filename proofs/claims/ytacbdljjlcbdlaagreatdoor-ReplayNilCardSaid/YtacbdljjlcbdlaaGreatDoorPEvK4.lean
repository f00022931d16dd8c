/- Calls, run by the kernel (78626 operations). -/
import Derived.Test.YtacbdljjlcbdlaaGreatDoorPEvTab
import Derived.Test.YtacbdljjlcbdlaaGreatDoorEvMemo
namespace Go.Ev
open Go.Proofs
set_option maxRecDepth 100000
theorem m33_is : isMemo U33 100000000 47 m33 = true := by kernel_rfl
theorem m34_is : isMemo E5 100000000 22 m34 = true := by kernel_rfl
theorem m35_is : isMemo E5 100000000 49 m35 = true := by kernel_rfl
theorem m36_is : isMemo E5 100000000 49 m36 = true := by kernel_rfl
end Go.Ev
