/- Calls, run by the kernel (112382 operations). -/
import Derived.Test.YtlgngfiiaoodjaaGreatDoorEvTab
import Derived.Test.YtlgngfiiaoodjaaGreatDoorEvMemos
namespace Go.Ev
open Go.Proofs
set_option maxRecDepth 100000
theorem m12_is : isMemo U12 100000000 174 m12 = true := by kernel_rfl
theorem m16_is : isMemo E4 100000000 26 m16 = true := by kernel_rfl
theorem m18_is : isMemo E4 100000000 26 m18 = true := by kernel_rfl
theorem m20_is : isMemo E4 100000000 26 m20 = true := by kernel_rfl
theorem m21_is : isMemo E4 100000000 27 m21 = true := by kernel_rfl
theorem m22_is : isMemo E4 100000000 27 m22 = true := by kernel_rfl
end Go.Ev
