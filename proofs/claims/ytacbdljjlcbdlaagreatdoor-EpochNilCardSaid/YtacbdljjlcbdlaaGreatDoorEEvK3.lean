/- Calls, run by the kernel (29482 operations). -/
import Derived.Test.YtacbdljjlcbdlaaGreatDoorEEvTab
import Derived.Test.YtacbdljjlcbdlaaGreatDoorEvMemo
namespace Go.Ev
open Go.Proofs
set_option maxRecDepth 100000
theorem m15_is : isMemo E5 100000000 38 m15 = true := by kernel_rfl
end Go.Ev
