/- Closed facts of the card. -/
import Derived.Test.YtjjienfhbfdaiaaGreatDoorRows
import Derived.SevenTiedAt
import Derived.KernelRfl
namespace Go.Proofs.YtjjienfhbfdaiaaGreatDoor
open Go
set_option maxRecDepth 100000
theorem card_wf : Rows.machineNilRow.wfByText (OpenSpec.ofChange Rows.machineNilSpec) = true := by kernel_rfl
theorem card_main : Tryz.pinned.checked.prog.mainIs = some (true, "d113c9564b1da2908d8db07b4f6aec5567944cc9ab3d015722adcaba8840c478".toList) := by kernel_rfl
theorem card_named : Tryz.pinned.checked.prog.funcNamed Rows.machineNilRow.func = some 3 := by kernel_rfl
theorem card_looks : true = Tryz.pinned.checked.prog.looks [] := by kernel_rfl
theorem card_stand : (([23, 24] : List Nat).all fun u => !Tryz.pinned.checked.prog.wantsStandIn u) = true := by kernel_rfl
theorem card_datum : Pinned.datum ((Rows.machineNilRow.laid.map (·.1)).getD 13 "") = some Rows.laid_unicode_utf8_first := by kernel_rfl
end Go.Proofs.YtjjienfhbfdaiaaGreatDoor
