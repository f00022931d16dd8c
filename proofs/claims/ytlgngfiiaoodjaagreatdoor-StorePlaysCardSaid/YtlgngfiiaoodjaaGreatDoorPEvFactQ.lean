/- The row's closed facts, part C. -/
import Derived.Test.YtlgngfiiaoodjaaGreatDoorRows
import Derived.JoinedOf
import Derived.KernelRfl
/- The row's closed facts, part C. -/
namespace Go.Proofs.YtlgngfiiaoodjaaGreatDoor
open Go
set_option maxRecDepth 100000
theorem fact10 : ((Rows.storePlaysRow.unfollowed == Tryz.checked.prog.unfollowed 7)) = true := by kernel_rfl
theorem fact11 : ((Rows.storePlaysRow.recurses == Tryz.checked.prog.recurses 7)) = true := by kernel_rfl
end Go.Proofs.YtlgngfiiaoodjaaGreatDoor
/- The row's closed facts, part D. -/
namespace Go.Proofs.YtlgngfiiaoodjaaGreatDoor
open Go
set_option maxRecDepth 100000
theorem fact12 : ((Rows.storePlaysRow.named == Tryz.checked.prog.varsNamed 7)) = true := by kernel_rfl
end Go.Proofs.YtlgngfiiaoodjaaGreatDoor
