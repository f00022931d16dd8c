/- Calls, run by the kernel (77203 operations). -/
import Derived.Test.YtacbdljjlcbdlaaGreatDoorPEvTab
import Derived.Test.YtacbdljjlcbdlaaGreatDoorEvMemo
namespace Go.Ev
open Go.Proofs
set_option maxRecDepth 100000
theorem m18_is : isMemo U18 100000000 102 m18 = true := by kernel_rfl
theorem m19_is : isMemo E5 100000000 49 m19 = true := by kernel_rfl
theorem m20_is : isMemo E5 100000000 49 m20 = true := by kernel_rfl
theorem m21_is : isMemo E5 100000000 49 m21 = true := by kernel_rfl
theorem m22_is : isMemo E5 100000000 49 m22 = true := by kernel_rfl
end Go.Ev
