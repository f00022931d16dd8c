/- Calls, run by the kernel (46394 operations). -/
import Derived.Test.YtacbdljjlcbdlaaGreatDoorREvTab
import Derived.Test.YtacbdljjlcbdlaaGreatDoorEvMemo
namespace Go.Ev
open Go.Proofs
set_option maxRecDepth 100000
theorem s339_0_is : isSum E0 100000000 nx0 339 s339_0 = true := by kernel_rfl
theorem s339_1_is : isSum E0 100000000 nx0 339 s339_1 = true := by kernel_rfl
theorem s339_2_is : isSum E0 100000000 nx0 339 s339_2 = true := by kernel_rfl
theorem s174_0_is : isSum E1 100000000 nx0 174 s174_0 = true := by kernel_rfl
theorem s106_0_is : isSum E2 100000000 nx0 106 s106_0 = true := by kernel_rfl
end Go.Ev
