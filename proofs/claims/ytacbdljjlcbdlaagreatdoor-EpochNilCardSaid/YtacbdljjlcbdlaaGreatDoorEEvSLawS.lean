/- The law's function, run by the kernel. -/
import Derived.Test.YtacbdljjlcbdlaaGreatDoorEEvTab
namespace Go.Ev
open Go.Proofs
set_option maxRecDepth 100000
def isTrueS : Ret → Bool
  | .ok (.bool b) _ => b
  | _ => false
theorem law_isS : isTrueS (callR E6 (run E6 100000000) .normal 7 [.osl decS (.v 0)] ⟨.e, nx0⟩) = true := by kernel_rfl
end Go.Ev
