/- Calls of function 47, run by the kernel. -/
import Derived.Test.YthpjnjmlbeglnaaGreatDoorEvTab
namespace Go.Ev
open Go.Proofs
set_option maxRecDepth 100000
theorem s47_0_is : isSum E2 100000000 nx0 47 s47_0 = true := by kernel_rfl
end Go.Ev
