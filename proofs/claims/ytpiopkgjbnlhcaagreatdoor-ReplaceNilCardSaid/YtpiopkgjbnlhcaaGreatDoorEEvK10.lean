/- Calls, run by the kernel (60042 operations). -/
import Derived.Test.YtpiopkgjbnlhcaaGreatDoorEEvTab
import Derived.Test.YtpiopkgjbnlhcaaGreatDoorEvRen
namespace Go.Ev
open Go.Proofs
set_option maxRecDepth 100000
theorem r111_is : isRen V111 100000000 145 r111 = true := by kernel_rfl
theorem r112_is : isRen V112 100000000 81 r112 = true := by kernel_rfl
theorem r113_is : isRen V113 100000000 41 r113 = true := by kernel_rfl
theorem r114_is : isRen V114 100000000 59 r114 = true := by kernel_rfl
theorem r115_is : isRen V115 100000000 145 r115 = true := by kernel_rfl
theorem r116_is : isRen V116 100000000 81 r116 = true := by kernel_rfl
theorem r117_is : isRen V117 100000000 41 r117 = true := by kernel_rfl
theorem r118_is : isRen V118 100000000 59 r118 = true := by kernel_rfl
theorem r119_is : isRen V119 100000000 81 r119 = true := by kernel_rfl
theorem r120_is : isRen V120 100000000 41 r120 = true := by kernel_rfl
theorem m161_is : isMemo E7 100000000 21 m161 = true := by kernel_rfl
end Go.Ev
