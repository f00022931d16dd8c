/- The law's function, run by the kernel. -/
import Derived.Test.YtacbdljjlcbdlaaGreatDoorPEvTab
namespace Go.Ev
open Go.Proofs
set_option maxRecDepth 100000
def isTrueA : Ret → Bool
  | .ok (.bool b) _ => b
  | _ => false
theorem law_isA : isTrueA (callR U65 (run U65 100000000) .normal 8 [.opq 0, .opq 1] ⟨.e, nx0⟩) = true := by kernel_rfl
end Go.Ev
