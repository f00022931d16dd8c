/- Calls of function 88, run by the kernel. -/
import Derived.Test.YtjjienfhbfdaiaaGreatDoorEvTab
namespace Go.Ev
open Go.Proofs
set_option maxRecDepth 100000
theorem s88_0_is : isSum E1 100000000 nx0 88 s88_0 = true := by kernel_rfl
end Go.Ev
