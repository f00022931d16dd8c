/- Calls, run by the kernel (39445 operations). -/
import Derived.Test.YtacbdljjlcbdlaaGreatDoorVEvTab
import Derived.Test.YtacbdljjlcbdlaaGreatDoorEvMemo
namespace Go.Ev
open Go.Proofs
set_option maxRecDepth 100000
theorem m14_is : isMemo U14 100000000 31 m14 = true := by kernel_rfl
end Go.Ev
