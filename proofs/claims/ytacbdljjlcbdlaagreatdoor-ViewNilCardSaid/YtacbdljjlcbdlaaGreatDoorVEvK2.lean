/- Calls, run by the kernel (69366 operations). -/
import Derived.Test.YtacbdljjlcbdlaaGreatDoorVEvTab
import Derived.Test.YtacbdljjlcbdlaaGreatDoorEvMemo
namespace Go.Ev
open Go.Proofs
set_option maxRecDepth 100000
theorem m10_is : isMemo E5 100000000 87 m10 = true := by kernel_rfl
theorem m11_is : isMemo E5 100000000 29 m11 = true := by kernel_rfl
end Go.Ev
