/- Calls, run by the kernel (18470 operations). -/
import Derived.Test.YtacbdljjlcbdlaaGreatDoorSEvTab
import Derived.Test.YtacbdljjlcbdlaaGreatDoorEvMemo
namespace Go.Ev
open Go.Proofs
set_option maxRecDepth 100000
theorem s19_5_is : isSum E4 100000000 nx0 19 s19_5 = true := by kernel_rfl
theorem s19_6_is : isSum E4 100000000 nx0 19 s19_6 = true := by kernel_rfl
end Go.Ev
