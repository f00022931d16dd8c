/- The row's closed facts, part D. -/
import Derived.Test.YtpiopkgjbnlhcaaGreatDoorRows
import Derived.JoinedOf
import Derived.KernelRfl
namespace Go.Proofs.YtpiopkgjbnlhcaaGreatDoor
open Go
set_option maxRecDepth 100000
theorem fact12 : ((Rows.replaceNilRow.named == Tryz.checked.prog.varsNamed 3)) = true := by kernel_rfl
end Go.Proofs.YtpiopkgjbnlhcaaGreatDoor
