/- The row's closed facts, part C. -/
import Derived.Test.YtpiopkgjbnlhcaaGreatDoorRows
import Derived.JoinedOf
import Derived.KernelRfl
namespace Go.Proofs.YtpiopkgjbnlhcaaGreatDoor
open Go
set_option maxRecDepth 100000
theorem fact10 : ((Rows.replaceNilRow.unfollowed == Tryz.checked.prog.unfollowed 3)) = true := by kernel_rfl
theorem fact11 : ((Rows.replaceNilRow.recurses == Tryz.checked.prog.recurses 3)) = true := by kernel_rfl
end Go.Proofs.YtpiopkgjbnlhcaaGreatDoor
