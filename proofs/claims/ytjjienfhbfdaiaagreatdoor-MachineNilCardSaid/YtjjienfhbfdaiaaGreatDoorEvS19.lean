/- Calls of function 19, run by the kernel. -/
import Derived.Test.YtjjienfhbfdaiaaGreatDoorEvTab
namespace Go.Ev
open Go.Proofs
set_option maxRecDepth 100000
theorem s19_0_is : isSum E3 100000000 nx0 19 s19_0 = true := by kernel_rfl
end Go.Ev
