/- The tie: the pinned table, and the list as a whole. -/
import Derived.Test.YtlgngfiiaoodjaaGreatDoorRows
import Derived.LaidByTextLater
import Derived.LaidOnce
import Derived.LaidSub
import Derived.KernelRfl
namespace Go.Proofs.YtlgngfiiaoodjaaGreatDoor
open Go
set_option maxRecDepth 100000
def pinName : String := (Rows.storePlaysRow.laid.map (·.1)).getD 13 ""
theorem pin_first : Tryz.pinned.checked.prog.pinnedFits pinName = true := by kernel_rfl
theorem no_own : Tryz.pinned.checked.prog.headLifts.contains "ownunsafe" = false := by kernel_rfl
theorem fits_all : Tryz.pinned.checked.prog.listedFits Rows.storePlaysRow.laid = true := by
  unfold Program.listedFits
  rw [no_own]
  kernel_rfl
end Go.Proofs.YtlgngfiiaoodjaaGreatDoor
