/- Calls, run by the kernel (70493 operations). -/
import Derived.Test.YtacbdljjlcbdlaaGreatDoorPEvTab
import Derived.Test.YtacbdljjlcbdlaaGreatDoorEvMemo
namespace Go.Ev
open Go.Proofs
set_option maxRecDepth 100000
theorem s46_1_is : isSum E4 100000000 nx0 46 s46_1 = true := by kernel_rfl
theorem m8_is : isMemo E3 100000000 280 m8 = true := by kernel_rfl
theorem m12_is : isMemo E5 100000000 114 m12 = true := by kernel_rfl
theorem m13_is : isMemo E5 100000000 114 m13 = true := by kernel_rfl
theorem m14_is : isMemo E5 100000000 114 m14 = true := by kernel_rfl
theorem m15_is : isMemo E5 100000000 114 m15 = true := by kernel_rfl
theorem m16_is : isMemo E5 100000000 114 m16 = true := by kernel_rfl
theorem m17_is : isMemo E5 100000000 114 m17 = true := by kernel_rfl
end Go.Ev
