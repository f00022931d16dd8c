/- The row's closed facts, part B. -/
import Derived.Test.YtacbdljjlcbdlaaGreatDoorRows
import Derived.JoinedOf
import Derived.KernelRfl
namespace Go.Proofs.YtacbdljjlcbdlaaGreatDoor
open Go
set_option maxRecDepth 100000
theorem fact9 : ((Rows.storeRefusesRow.inPlace == Tryz.checked.prog.inPlace 3)) = true := by kernel_rfl
end Go.Proofs.YtacbdljjlcbdlaaGreatDoor
