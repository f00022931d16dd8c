/- Calls, run by the kernel (52895 operations). -/
import Derived.Test.YtacbdljjlcbdlaaGreatDoorVEvTab
import Derived.Test.YtacbdljjlcbdlaaGreatDoorEvMemo
namespace Go.Ev
open Go.Proofs
set_option maxRecDepth 100000
theorem m12_is : isMemo U12 100000000 87 m12 = true := by kernel_rfl
theorem m13_is : isMemo E5 100000000 29 m13 = true := by kernel_rfl
end Go.Ev
