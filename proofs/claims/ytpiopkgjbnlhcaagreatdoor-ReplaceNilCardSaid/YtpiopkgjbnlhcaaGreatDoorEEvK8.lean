/- Calls, run by the kernel (70438 operations). -/
import Derived.Test.YtpiopkgjbnlhcaaGreatDoorEEvTab
import Derived.Test.YtpiopkgjbnlhcaaGreatDoorEvRen
namespace Go.Ev
open Go.Proofs
set_option maxRecDepth 100000
theorem r54_is : isRen V54 100000000 223 r54 = true := by kernel_rfl
theorem r55_is : isRen V55 100000000 277 r55 = true := by kernel_rfl
theorem r56_is : isRen V56 100000000 210 r56 = true := by kernel_rfl
theorem r57_is : isRen V57 100000000 71 r57 = true := by kernel_rfl
theorem r58_is : isRen V58 100000000 100 r58 = true := by kernel_rfl
theorem r59_is : isRen V59 100000000 59 r59 = true := by kernel_rfl
theorem r60_is : isRen V60 100000000 57 r60 = true := by kernel_rfl
theorem r61_is : isRen V61 100000000 142 r61 = true := by kernel_rfl
theorem r62_is : isRen V62 100000000 223 r62 = true := by kernel_rfl
theorem r63_is : isRen V63 100000000 223 r63 = true := by kernel_rfl
theorem r64_is : isRen V64 100000000 276 r64 = true := by kernel_rfl
theorem r65_is : isRen V65 100000000 276 r65 = true := by kernel_rfl
theorem r66_is : isRen V66 100000000 210 r66 = true := by kernel_rfl
theorem r67_is : isRen V67 100000000 277 r67 = true := by kernel_rfl
theorem r68_is : isRen V68 100000000 210 r68 = true := by kernel_rfl
theorem r69_is : isRen V69 100000000 223 r69 = true := by kernel_rfl
theorem r70_is : isRen V70 100000000 277 r70 = true := by kernel_rfl
theorem r71_is : isRen V71 100000000 210 r71 = true := by kernel_rfl
theorem r72_is : isRen V72 100000000 71 r72 = true := by kernel_rfl
theorem r73_is : isRen V73 100000000 100 r73 = true := by kernel_rfl
theorem r74_is : isRen V74 100000000 59 r74 = true := by kernel_rfl
theorem r75_is : isRen V75 100000000 57 r75 = true := by kernel_rfl
theorem r76_is : isRen V76 100000000 142 r76 = true := by kernel_rfl
theorem r77_is : isRen V77 100000000 223 r77 = true := by kernel_rfl
theorem r78_is : isRen V78 100000000 223 r78 = true := by kernel_rfl
theorem r79_is : isRen V79 100000000 276 r79 = true := by kernel_rfl
theorem r80_is : isRen V80 100000000 276 r80 = true := by kernel_rfl
theorem r81_is : isRen V81 100000000 210 r81 = true := by kernel_rfl
theorem r82_is : isRen V82 100000000 277 r82 = true := by kernel_rfl
theorem r83_is : isRen V83 100000000 210 r83 = true := by kernel_rfl
theorem r84_is : isRen V84 100000000 223 r84 = true := by kernel_rfl
theorem r85_is : isRen V85 100000000 277 r85 = true := by kernel_rfl
theorem r86_is : isRen V86 100000000 210 r86 = true := by kernel_rfl
theorem r87_is : isRen V87 100000000 71 r87 = true := by kernel_rfl
theorem r88_is : isRen V88 100000000 59 r88 = true := by kernel_rfl
theorem r89_is : isRen V89 100000000 59 r89 = true := by kernel_rfl
theorem r90_is : isRen V90 100000000 71 r90 = true := by kernel_rfl
theorem r91_is : isRen V91 100000000 145 r91 = true := by kernel_rfl
theorem r92_is : isRen V92 100000000 81 r92 = true := by kernel_rfl
theorem r93_is : isRen V93 100000000 41 r93 = true := by kernel_rfl
theorem r94_is : isRen V94 100000000 145 r94 = true := by kernel_rfl
theorem r95_is : isRen V95 100000000 145 r95 = true := by kernel_rfl
theorem r96_is : isRen V96 100000000 145 r96 = true := by kernel_rfl
theorem r97_is : isRen V97 100000000 81 r97 = true := by kernel_rfl
end Go.Ev
