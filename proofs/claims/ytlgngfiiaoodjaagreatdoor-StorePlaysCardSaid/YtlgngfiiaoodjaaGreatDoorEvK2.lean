/- Calls, run by the kernel (123300 operations). -/
import Derived.Test.YtlgngfiiaoodjaaGreatDoorEvTab
import Derived.Test.YtlgngfiiaoodjaaGreatDoorEvMemos
namespace Go.Ev
open Go.Proofs
set_option maxRecDepth 100000
theorem s9_4_is : isSum U23 100000000 nx0 9 s9_4 = true := by kernel_rfl
theorem m5_is : isMemo E3 100000000 250 m5 = true := by kernel_rfl
theorem m6_is : isMemo E3 100000000 250 m6 = true := by kernel_rfl
theorem m7_is : isMemo E3 100000000 250 m7 = true := by kernel_rfl
theorem m8_is : isMemo E3 100000000 250 m8 = true := by kernel_rfl
theorem m9_is : isMemo E3 100000000 250 m9 = true := by kernel_rfl
theorem m10_is : isMemo E3 100000000 250 m10 = true := by kernel_rfl
theorem m11_is : isMemo E3 100000000 250 m11 = true := by kernel_rfl
end Go.Ev
