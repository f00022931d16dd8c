/- The law's function, run by the kernel. -/
import Derived.Test.YtpiopkgjbnlhcaaGreatDoorEEvTab
namespace Go.Ev
open Go.Proofs
set_option maxRecDepth 100000
def isTrueS : Ret → Bool
  | .ok (.bool b) _ => b
  | _ => false
theorem law_isS : isTrueS (callR E8 (run E8 100000000) .normal 3 [.agg [.any, .any, .osl decS (.v 0)], .any] ⟨.e, nx0⟩) = true := by kernel_rfl
end Go.Ev
