/- Calls, run by the kernel (79399 operations). -/
import Derived.Test.YtacbdljjlcbdlaaGreatDoorEEvTab
import Derived.Test.YtacbdljjlcbdlaaGreatDoorEvMemo
namespace Go.Ev
open Go.Proofs
set_option maxRecDepth 100000
theorem s59_1_is : isSum E3 100000000 nx0 59 s59_1 = true := by kernel_rfl
theorem s59_2_is : isSum E3 100000000 nx0 59 s59_2 = true := by kernel_rfl
theorem s33_0_is : isSum E4 100000000 nx0 33 s33_0 = true := by kernel_rfl
theorem s33_1_is : isSum E4 100000000 nx0 33 s33_1 = true := by kernel_rfl
theorem s33_2_is : isSum E4 100000000 nx0 33 s33_2 = true := by kernel_rfl
end Go.Ev
