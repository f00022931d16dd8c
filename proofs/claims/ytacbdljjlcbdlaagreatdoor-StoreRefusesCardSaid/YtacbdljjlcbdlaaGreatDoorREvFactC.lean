/- The row's closed facts, part C. -/
import Derived.Test.YtacbdljjlcbdlaaGreatDoorRows
import Derived.JoinedOf
import Derived.KernelRfl
namespace Go.Proofs.YtacbdljjlcbdlaaGreatDoor
open Go
set_option maxRecDepth 100000
theorem fact10 : ((Rows.storeRefusesRow.unfollowed == Tryz.checked.prog.unfollowed 3)) = true := by kernel_rfl
theorem fact11 : ((Rows.storeRefusesRow.recurses == Tryz.checked.prog.recurses 3)) = true := by kernel_rfl
end Go.Proofs.YtacbdljjlcbdlaaGreatDoor
