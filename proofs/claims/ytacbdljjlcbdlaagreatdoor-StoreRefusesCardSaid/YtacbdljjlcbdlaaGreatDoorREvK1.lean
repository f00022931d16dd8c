/- Calls, run by the kernel (73603 operations). -/
import Derived.Test.YtacbdljjlcbdlaaGreatDoorREvTab
import Derived.Test.YtacbdljjlcbdlaaGreatDoorEvMemo
namespace Go.Ev
open Go.Proofs
set_option maxRecDepth 100000
theorem s59_0_is : isSum U13 100000000 nx0 59 s59_0 = true := by kernel_rfl
theorem s10_0_is : isSum E4 100000000 nx0 10 s10_0 = true := by kernel_rfl
end Go.Ev
