/- Calls of function 45, run by the kernel. -/
import Derived.Test.YtjjienfhbfdaiaaGreatDoorEvTab
namespace Go.Ev
open Go.Proofs
set_option maxRecDepth 100000
theorem s45_0_is : isSum E2 100000000 nx0 45 s45_0 = true := by kernel_rfl
end Go.Ev
