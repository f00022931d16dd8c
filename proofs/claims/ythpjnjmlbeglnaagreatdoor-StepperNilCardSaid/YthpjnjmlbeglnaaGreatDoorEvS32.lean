/- Calls of function 32, run by the kernel. -/
import Derived.Test.YthpjnjmlbeglnaaGreatDoorEvTab
namespace Go.Ev
open Go.Proofs
set_option maxRecDepth 100000
theorem s32_0_is : isSum E3 100000000 nx0 32 s32_0 = true := by kernel_rfl
end Go.Ev
