/- Calls, run by the kernel (44677 operations). -/
import Derived.Test.YtacbdljjlcbdlaaGreatDoorPEvTab
import Derived.Test.YtacbdljjlcbdlaaGreatDoorEvMemo
namespace Go.Ev
open Go.Proofs
set_option maxRecDepth 100000
theorem m46_is : isMemo E5 100000000 49 m46 = true := by kernel_rfl
theorem m47_is : isMemo E5 100000000 49 m47 = true := by kernel_rfl
theorem m48_is : isMemo E5 100000000 49 m48 = true := by kernel_rfl
theorem m49_is : isMemo E5 100000000 49 m49 = true := by kernel_rfl
theorem m50_is : isMemo E5 100000000 49 m50 = true := by kernel_rfl
theorem m51_is : isMemo E5 100000000 49 m51 = true := by kernel_rfl
end Go.Ev
