/- Calls, run by the kernel (46442 operations). -/
import Derived.Test.YtacbdljjlcbdlaaGreatDoorREvTab
import Derived.Test.YtacbdljjlcbdlaaGreatDoorEvMemo
namespace Go.Ev
open Go.Proofs
set_option maxRecDepth 100000
theorem m8_is : isMemo E3 100000000 423 m8 = true := by kernel_rfl
theorem m9_is : isMemo E3 100000000 423 m9 = true := by kernel_rfl
theorem m10_is : isMemo E3 100000000 423 m10 = true := by kernel_rfl
theorem m11_is : isMemo E3 100000000 423 m11 = true := by kernel_rfl
end Go.Ev
