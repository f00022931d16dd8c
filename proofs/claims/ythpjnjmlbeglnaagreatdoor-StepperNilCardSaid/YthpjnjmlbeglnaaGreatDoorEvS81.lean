/- Calls of function 81, run by the kernel. -/
import Derived.Test.YthpjnjmlbeglnaaGreatDoorEvTab
namespace Go.Ev
open Go.Proofs
set_option maxRecDepth 100000
theorem s81_0_is : isSum E1 100000000 nx0 81 s81_0 = true := by kernel_rfl
end Go.Ev
