/- The law's function, run by the kernel. -/
import Derived.Test.YtpiopkgjbnlhcaaGreatDoorEEvTab
namespace Go.Ev
open Go.Proofs
set_option maxRecDepth 100000
def isTrueL : Ret → Bool
  | .ok (.bool b) _ => b
  | _ => false
theorem law_isL : isTrueL (callR E8 (run E8 100000000) .normal 3 [.agg [.any, .any, .osl decL (.v 0)], .any] ⟨.e, nx0⟩) = true := by kernel_rfl
end Go.Ev
