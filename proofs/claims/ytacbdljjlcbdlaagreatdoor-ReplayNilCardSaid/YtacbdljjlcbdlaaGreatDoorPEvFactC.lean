/- The row's closed facts, part C. -/
import Derived.Test.YtacbdljjlcbdlaaGreatDoorRows
import Derived.JoinedOf
import Derived.KernelRfl
namespace Go.Proofs.YtacbdljjlcbdlaaGreatDoor
open Go
set_option maxRecDepth 100000
theorem fact10 : ((Rows.replayNilRow.unfollowed == Tryz.checked.prog.unfollowed 8)) = true := by kernel_rfl
theorem fact11 : ((Rows.replayNilRow.recurses == Tryz.checked.prog.recurses 8)) = true := by kernel_rfl
end Go.Proofs.YtacbdljjlcbdlaaGreatDoor
