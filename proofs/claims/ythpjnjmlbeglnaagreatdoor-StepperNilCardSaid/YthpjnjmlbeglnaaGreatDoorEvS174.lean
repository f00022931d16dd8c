/- Calls of function 174, run by the kernel. -/
import Derived.Test.YthpjnjmlbeglnaaGreatDoorEvTab
namespace Go.Ev
open Go.Proofs
set_option maxRecDepth 100000
theorem s174_0_is : isSum E0 100000000 nx0 174 s174_0 = true := by kernel_rfl
theorem s174_1_is : isSum E0 100000000 nx0 174 s174_1 = true := by kernel_rfl
theorem s174_2_is : isSum E0 100000000 nx0 174 s174_2 = true := by kernel_rfl
theorem s174_3_is : isSum E0 100000000 nx0 174 s174_3 = true := by kernel_rfl
theorem s174_4_is : isSum E0 100000000 nx0 174 s174_4 = true := by kernel_rfl
end Go.Ev
