/- Calls, run by the kernel (47409 operations). -/
import Derived.Test.YtacbdljjlcbdlaaGreatDoorPEvTab
import Derived.Test.YtacbdljjlcbdlaaGreatDoorEvMemo
namespace Go.Ev
open Go.Proofs
set_option maxRecDepth 100000
theorem m64_is : isMemo U64 100000000 48 m64 = true := by kernel_rfl
end Go.Ev
