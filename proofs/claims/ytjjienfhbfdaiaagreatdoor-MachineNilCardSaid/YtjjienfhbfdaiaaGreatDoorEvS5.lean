/- Calls of function 5, run by the kernel. -/
import Derived.Test.YtjjienfhbfdaiaaGreatDoorEvTab
namespace Go.Ev
open Go.Proofs
set_option maxRecDepth 100000
theorem s5_0_is : isSum E4 100000000 nx0 5 s5_0 = true := by kernel_rfl
theorem s5_1_is : isSum E4 100000000 nx0 5 s5_1 = true := by kernel_rfl
end Go.Ev
