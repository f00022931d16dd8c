/- Calls, run by the kernel (73174 operations). -/
import Derived.Test.YtacbdljjlcbdlaaGreatDoorPEvTab
import Derived.Test.YtacbdljjlcbdlaaGreatDoorEvMemo
namespace Go.Ev
open Go.Proofs
set_option maxRecDepth 100000
theorem m23_is : isMemo E5 100000000 49 m23 = true := by kernel_rfl
theorem m24_is : isMemo E5 100000000 49 m24 = true := by kernel_rfl
theorem m25_is : isMemo E5 100000000 49 m25 = true := by kernel_rfl
theorem m26_is : isMemo E5 100000000 49 m26 = true := by kernel_rfl
theorem m27_is : isMemo E5 100000000 49 m27 = true := by kernel_rfl
theorem m28_is : isMemo E5 100000000 49 m28 = true := by kernel_rfl
theorem m29_is : isMemo E5 100000000 49 m29 = true := by kernel_rfl
theorem m30_is : isMemo E5 100000000 49 m30 = true := by kernel_rfl
theorem m31_is : isMemo E5 100000000 49 m31 = true := by kernel_rfl
theorem m32_is : isMemo E5 100000000 49 m32 = true := by kernel_rfl
end Go.Ev
