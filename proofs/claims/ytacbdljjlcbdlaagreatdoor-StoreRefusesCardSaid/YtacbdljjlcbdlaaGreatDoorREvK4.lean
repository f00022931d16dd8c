/- Calls, run by the kernel (63024 operations). -/
import Derived.Test.YtacbdljjlcbdlaaGreatDoorREvTab
import Derived.Test.YtacbdljjlcbdlaaGreatDoorEvMemo
namespace Go.Ev
open Go.Proofs
set_option maxRecDepth 100000
theorem m12_is : isMemo U12 100000000 355 m12 = true := by kernel_rfl
theorem m15_is : isMemo E4 100000000 61 m15 = true := by kernel_rfl
end Go.Ev
