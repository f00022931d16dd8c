/- The row's closed facts, part B. -/
import Derived.Test.YtacbdljjlcbdlaaGreatDoorRows
import Derived.JoinedOf
import Derived.KernelRfl
namespace Go.Proofs.YtacbdljjlcbdlaaGreatDoor
open Go
set_option maxRecDepth 100000
theorem fact9 : ((Rows.replayNilRow.inPlace == Tryz.checked.prog.inPlace 8)) = true := by kernel_rfl
end Go.Proofs.YtacbdljjlcbdlaaGreatDoor
