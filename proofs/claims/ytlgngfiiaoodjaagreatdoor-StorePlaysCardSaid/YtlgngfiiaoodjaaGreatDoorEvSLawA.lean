/- The law's function, run by the kernel. -/
import Derived.Test.YtlgngfiiaoodjaaGreatDoorEvTab
import Derived.Test.YtlgngfiiaoodjaaGreatDoorEvDraws
namespace Go.Ev
open Go.Proofs
set_option maxRecDepth 100000
def isTrueA : Ret → Bool
  | .ok (.bool b) _ => b
  | _ => false
theorem law_isA : isTrueA (callR E5 (run E5 100000000) .normal 13 [] ⟨.e, nx0⟩) = true := by kernel_rfl
theorem law_isS2 : snapsR 2 (callR E5 (run E5 100000000) .normal 9 [.int .i64 (.ofNat 2)] ⟨.e, nx0⟩) = true := by kernel_rfl
theorem law_isS3 : snapsR 3 (callR E5 (run E5 100000000) .normal 9 [.int .i64 (.ofNat 3)] ⟨.e, nx0⟩) = true := by kernel_rfl
theorem law_isS4 : snapsR 4 (callR E5 (run E5 100000000) .normal 9 [.int .i64 (.ofNat 4)] ⟨.e, nx0⟩) = true := by kernel_rfl
theorem law_isS6 : snapsR 6 (callR E5 (run E5 100000000) .normal 9 [.int .i64 (.ofNat 6)] ⟨.e, nx0⟩) = true := by kernel_rfl
end Go.Ev
