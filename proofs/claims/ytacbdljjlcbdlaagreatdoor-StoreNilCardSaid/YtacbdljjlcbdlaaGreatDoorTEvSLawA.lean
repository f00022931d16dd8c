/- The law's function, run by the kernel. -/
import Derived.Test.YtacbdljjlcbdlaaGreatDoorTEvTab
namespace Go.Ev
open Go.Proofs
set_option maxRecDepth 100000
def isTrueA : Ret → Bool
  | .ok (.bool b) _ => b
  | _ => false
theorem law_isA : isTrueA (callR E5 (run E5 100000000) .normal 4 [.opq 0] ⟨.e, nx0⟩) = true := by kernel_rfl
end Go.Ev
