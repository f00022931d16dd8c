/- The law's function, run by the kernel. -/
import Derived.Test.YthpjnjmlbeglnaaGreatDoorEvTab
namespace Go.Ev
open Go.Proofs
set_option maxRecDepth 100000
def isTrue : Ret → Bool
  | .ok (.bool b) _ => b
  | _ => false
theorem law_is : isTrue (callR E5 (run E5 100000000) .normal 3 [.opq 0, .opq 1] ⟨.e, nx0⟩) = true := by kernel_rfl
end Go.Ev
