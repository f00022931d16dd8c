/- The row's closed facts, part D. -/
import Derived.Test.YtjjienfhbfdaiaaGreatDoorRows
import Derived.JoinedOf
import Derived.KernelRfl
namespace Go.Proofs.YtjjienfhbfdaiaaGreatDoor
open Go
set_option maxRecDepth 100000
theorem fact12 : ((Rows.machineNilRow.named == Tryz.checked.prog.varsNamed 3)) = true := by kernel_rfl
end Go.Proofs.YtjjienfhbfdaiaaGreatDoor
