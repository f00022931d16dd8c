/- Calls, run by the kernel (51347 operations). -/
import Derived.Test.YtacbdljjlcbdlaaGreatDoorEEvTab
import Derived.Test.YtacbdljjlcbdlaaGreatDoorEvMemo
namespace Go.Ev
open Go.Proofs
set_option maxRecDepth 100000
theorem s32_0_is : isSum U16 100000000 nx0 32 s32_0 = true := by kernel_rfl
theorem m14_is : isMemo E5 100000000 37 m14 = true := by kernel_rfl
end Go.Ev
