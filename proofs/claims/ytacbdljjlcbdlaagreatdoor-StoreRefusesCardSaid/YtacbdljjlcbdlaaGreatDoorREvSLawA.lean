/- The law's function, run by the kernel. -/
import Derived.Test.YtacbdljjlcbdlaaGreatDoorREvTab
namespace Go.Ev
open Go.Proofs
set_option maxRecDepth 100000
def isTrueA : Ret → Bool
  | .ok (.bool b) _ => b
  | _ => false
theorem law_isA : isTrueA (callR E5 (run E5 100000000) .normal 3 [.sym decA .u8 (.v 0), .sym decA .u16 (.v 1), .sym decA .u16 (.v 2)] ⟨.e, nx0⟩) = true := by kernel_rfl
end Go.Ev
