/- Calls, run by the kernel (71476 operations). -/
import Derived.Test.YtacbdljjlcbdlaaGreatDoorVEvTab
import Derived.Test.YtacbdljjlcbdlaaGreatDoorEvMemo
namespace Go.Ev
open Go.Proofs
set_option maxRecDepth 100000
theorem s59_0_is : isSum E3 100000000 nx0 59 s59_0 = true := by kernel_rfl
theorem s27_0_is : isSum E4 100000000 nx0 27 s27_0 = true := by kernel_rfl
theorem m9_is : isMemo E5 100000000 29 m9 = true := by kernel_rfl
end Go.Ev
