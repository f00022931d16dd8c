/- Calls, run by the kernel (70358 operations). -/
import Derived.Test.YtpiopkgjbnlhcaaGreatDoorEEvTab
import Derived.Test.YtpiopkgjbnlhcaaGreatDoorEvRen
namespace Go.Ev
open Go.Proofs
set_option maxRecDepth 100000
theorem r98_is : isRen V98 100000000 145 r98 = true := by kernel_rfl
theorem r99_is : isRen V99 100000000 81 r99 = true := by kernel_rfl
theorem r100_is : isRen V100 100000000 41 r100 = true := by kernel_rfl
theorem r101_is : isRen V101 100000000 59 r101 = true := by kernel_rfl
theorem r102_is : isRen V102 100000000 145 r102 = true := by kernel_rfl
theorem r103_is : isRen V103 100000000 145 r103 = true := by kernel_rfl
theorem r104_is : isRen V104 100000000 145 r104 = true := by kernel_rfl
theorem r105_is : isRen V105 100000000 145 r105 = true := by kernel_rfl
theorem r106_is : isRen V106 100000000 81 r106 = true := by kernel_rfl
theorem r107_is : isRen V107 100000000 145 r107 = true := by kernel_rfl
theorem r108_is : isRen V108 100000000 81 r108 = true := by kernel_rfl
theorem r109_is : isRen V109 100000000 41 r109 = true := by kernel_rfl
theorem r110_is : isRen V110 100000000 59 r110 = true := by kernel_rfl
end Go.Ev
