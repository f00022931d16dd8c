/- Calls, run by the kernel (68179 operations). -/
import Derived.Test.YtacbdljjlcbdlaaGreatDoorPEvTab
import Derived.Test.YtacbdljjlcbdlaaGreatDoorEvMemo
namespace Go.Ev
open Go.Proofs
set_option maxRecDepth 100000
theorem s339_0_is : isSum E0 100000000 nx0 339 s339_0 = true := by kernel_rfl
theorem s339_1_is : isSum E0 100000000 nx0 339 s339_1 = true := by kernel_rfl
theorem s339_2_is : isSum E0 100000000 nx0 339 s339_2 = true := by kernel_rfl
theorem s174_0_is : isSum E1 100000000 nx0 174 s174_0 = true := by kernel_rfl
theorem s174_1_is : isSum E1 100000000 nx0 174 s174_1 = true := by kernel_rfl
theorem s106_0_is : isSum E2 100000000 nx0 106 s106_0 = true := by kernel_rfl
theorem s106_1_is : isSum E2 100000000 nx0 106 s106_1 = true := by kernel_rfl
theorem s59_0_is : isSum E3 100000000 nx0 59 s59_0 = true := by kernel_rfl
theorem s59_1_is : isSum U9 100000000 nx0 59 s59_1 = true := by kernel_rfl
theorem s46_0_is : isSum E4 100000000 nx0 46 s46_0 = true := by kernel_rfl
end Go.Ev
