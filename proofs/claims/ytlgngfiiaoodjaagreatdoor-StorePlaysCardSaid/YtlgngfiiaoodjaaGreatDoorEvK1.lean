/- Calls, run by the kernel (128143 operations). -/
import Derived.Test.YtlgngfiiaoodjaaGreatDoorEvTab
import Derived.Test.YtlgngfiiaoodjaaGreatDoorEvMemos
namespace Go.Ev
open Go.Proofs
set_option maxRecDepth 100000
theorem s9_1_is : isSum E4 100000000 nx0 9 s9_1 = true := by kernel_rfl
theorem s9_2_is : isSum U17 100000000 nx0 9 s9_2 = true := by kernel_rfl
theorem s9_3_is : isSum U19 100000000 nx0 9 s9_3 = true := by kernel_rfl
end Go.Ev
