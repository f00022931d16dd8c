/- Calls, run by the kernel (79771 operations). -/
import Derived.Test.YtpiopkgjbnlhcaaGreatDoorEEvTab
import Derived.Test.YtpiopkgjbnlhcaaGreatDoorEvRen
namespace Go.Ev
open Go.Proofs
set_option maxRecDepth 100000
theorem s10_0_is : isSum U166 100000000 nx0 10 s10_0 = true := by kernel_rfl
theorem r0_is : isRen V0 100000000 59 r0 = true := by kernel_rfl
theorem r1_is : isRen V1 100000000 100 r1 = true := by kernel_rfl
theorem r2_is : isRen V2 100000000 59 r2 = true := by kernel_rfl
theorem r3_is : isRen V3 100000000 57 r3 = true := by kernel_rfl
theorem r4_is : isRen V4 100000000 142 r4 = true := by kernel_rfl
theorem r5_is : isRen V5 100000000 223 r5 = true := by kernel_rfl
theorem r6_is : isRen V6 100000000 223 r6 = true := by kernel_rfl
theorem r7_is : isRen V7 100000000 276 r7 = true := by kernel_rfl
theorem r8_is : isRen V8 100000000 276 r8 = true := by kernel_rfl
theorem r9_is : isRen V9 100000000 210 r9 = true := by kernel_rfl
theorem r10_is : isRen V10 100000000 277 r10 = true := by kernel_rfl
theorem r11_is : isRen V11 100000000 210 r11 = true := by kernel_rfl
theorem r12_is : isRen V12 100000000 223 r12 = true := by kernel_rfl
theorem r13_is : isRen V13 100000000 277 r13 = true := by kernel_rfl
theorem r14_is : isRen V14 100000000 210 r14 = true := by kernel_rfl
theorem r15_is : isRen V15 100000000 71 r15 = true := by kernel_rfl
theorem r16_is : isRen V16 100000000 252 r16 = true := by kernel_rfl
theorem r17_is : isRen V17 100000000 252 r17 = true := by kernel_rfl
theorem r18_is : isRen V18 100000000 252 r18 = true := by kernel_rfl
theorem r19_is : isRen V19 100000000 252 r19 = true := by kernel_rfl
theorem r20_is : isRen V20 100000000 181 r20 = true := by kernel_rfl
theorem r21_is : isRen V21 100000000 60 r21 = true := by kernel_rfl
theorem r22_is : isRen V22 100000000 100 r22 = true := by kernel_rfl
theorem r23_is : isRen V23 100000000 59 r23 = true := by kernel_rfl
theorem r24_is : isRen V24 100000000 57 r24 = true := by kernel_rfl
theorem r25_is : isRen V25 100000000 142 r25 = true := by kernel_rfl
theorem r26_is : isRen V26 100000000 223 r26 = true := by kernel_rfl
theorem r27_is : isRen V27 100000000 223 r27 = true := by kernel_rfl
theorem r28_is : isRen V28 100000000 277 r28 = true := by kernel_rfl
theorem r29_is : isRen V29 100000000 210 r29 = true := by kernel_rfl
theorem r30_is : isRen V30 100000000 223 r30 = true := by kernel_rfl
theorem r31_is : isRen V31 100000000 276 r31 = true := by kernel_rfl
theorem r32_is : isRen V32 100000000 276 r32 = true := by kernel_rfl
theorem r33_is : isRen V33 100000000 210 r33 = true := by kernel_rfl
theorem r34_is : isRen V34 100000000 277 r34 = true := by kernel_rfl
theorem r35_is : isRen V35 100000000 210 r35 = true := by kernel_rfl
theorem r36_is : isRen V36 100000000 223 r36 = true := by kernel_rfl
theorem r37_is : isRen V37 100000000 277 r37 = true := by kernel_rfl
theorem r38_is : isRen V38 100000000 210 r38 = true := by kernel_rfl
theorem r39_is : isRen V39 100000000 71 r39 = true := by kernel_rfl
theorem r40_is : isRen V40 100000000 100 r40 = true := by kernel_rfl
theorem r41_is : isRen V41 100000000 59 r41 = true := by kernel_rfl
theorem r42_is : isRen V42 100000000 57 r42 = true := by kernel_rfl
theorem r43_is : isRen V43 100000000 142 r43 = true := by kernel_rfl
theorem r44_is : isRen V44 100000000 223 r44 = true := by kernel_rfl
theorem r45_is : isRen V45 100000000 223 r45 = true := by kernel_rfl
theorem r46_is : isRen V46 100000000 223 r46 = true := by kernel_rfl
theorem r47_is : isRen V47 100000000 276 r47 = true := by kernel_rfl
theorem r48_is : isRen V48 100000000 276 r48 = true := by kernel_rfl
theorem r49_is : isRen V49 100000000 210 r49 = true := by kernel_rfl
theorem r50_is : isRen V50 100000000 277 r50 = true := by kernel_rfl
theorem r51_is : isRen V51 100000000 210 r51 = true := by kernel_rfl
theorem r52_is : isRen V52 100000000 277 r52 = true := by kernel_rfl
theorem r53_is : isRen V53 100000000 210 r53 = true := by kernel_rfl
end Go.Ev
