/- The row's closed facts, part D. -/
import Derived.Test.YtacbdljjlcbdlaaGreatDoorRows
import Derived.JoinedOf
import Derived.KernelRfl
namespace Go.Proofs.YtacbdljjlcbdlaaGreatDoor
open Go
set_option maxRecDepth 100000
theorem fact12 : ((Rows.replayNilRow.named == Tryz.checked.prog.varsNamed 8)) = true := by kernel_rfl
end Go.Proofs.YtacbdljjlcbdlaaGreatDoor
