/- Calls, run by the kernel (78927 operations). -/
import Derived.Test.YtacbdljjlcbdlaaGreatDoorREvTab
import Derived.Test.YtacbdljjlcbdlaaGreatDoorEvMemo
namespace Go.Ev
open Go.Proofs
set_option maxRecDepth 100000
theorem s10_1_is : isSum U16 100000000 nx0 10 s10_1 = true := by kernel_rfl
theorem m5_is : isMemo E3 100000000 423 m5 = true := by kernel_rfl
theorem m6_is : isMemo E3 100000000 423 m6 = true := by kernel_rfl
theorem m7_is : isMemo E3 100000000 423 m7 = true := by kernel_rfl
end Go.Ev
