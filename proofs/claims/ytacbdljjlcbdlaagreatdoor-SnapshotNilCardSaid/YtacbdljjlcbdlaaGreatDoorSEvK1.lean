/- Calls, run by the kernel (71644 operations). -/
import Derived.Test.YtacbdljjlcbdlaaGreatDoorSEvTab
import Derived.Test.YtacbdljjlcbdlaaGreatDoorEvMemo
namespace Go.Ev
open Go.Proofs
set_option maxRecDepth 100000
theorem s59_2_is : isSum E3 100000000 nx0 59 s59_2 = true := by kernel_rfl
theorem s59_3_is : isSum E3 100000000 nx0 59 s59_3 = true := by kernel_rfl
theorem s19_0_is : isSum E4 100000000 nx0 19 s19_0 = true := by kernel_rfl
theorem s19_1_is : isSum E4 100000000 nx0 19 s19_1 = true := by kernel_rfl
theorem s19_2_is : isSum E4 100000000 nx0 19 s19_2 = true := by kernel_rfl
theorem s19_3_is : isSum E4 100000000 nx0 19 s19_3 = true := by kernel_rfl
theorem s19_4_is : isSum E4 100000000 nx0 19 s19_4 = true := by kernel_rfl
end Go.Ev
