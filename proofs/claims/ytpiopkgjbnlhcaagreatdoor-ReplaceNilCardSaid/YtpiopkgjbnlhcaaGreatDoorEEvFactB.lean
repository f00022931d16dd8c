/- The row's closed facts, part B. -/
import Derived.Test.YtpiopkgjbnlhcaaGreatDoorRows
import Derived.JoinedOf
import Derived.KernelRfl
namespace Go.Proofs.YtpiopkgjbnlhcaaGreatDoor
open Go
set_option maxRecDepth 100000
theorem fact9 : ((Rows.replaceNilRow.inPlace == Tryz.checked.prog.inPlace 3)) = true := by kernel_rfl
end Go.Proofs.YtpiopkgjbnlhcaaGreatDoor
