/- Closed facts of the card. -/
import Derived.Test.YthpjnjmlbeglnaaGreatDoorRows
import Derived.SevenTiedAt
import Derived.KernelRfl
namespace Go.Proofs.YthpjnjmlbeglnaaGreatDoor
open Go
set_option maxRecDepth 100000
theorem card_wf : Rows.stepperNilRow.wfByText (OpenSpec.ofChange Rows.stepperNilSpec) = true := by kernel_rfl
theorem card_main : Tryz.pinned.checked.prog.mainIs = some (true, "ba459322edd8b85fa952e5613461bcfa5626b4dc55fe9a25b886a4cd81def243".toList) := by kernel_rfl
theorem card_named : Tryz.pinned.checked.prog.funcNamed Rows.stepperNilRow.func = some 3 := by kernel_rfl
theorem card_looks : true = Tryz.pinned.checked.prog.looks [] := by kernel_rfl
theorem card_stand : ([3, 3].all fun u => !Tryz.pinned.checked.prog.wantsStandIn u) = true := by kernel_rfl
theorem card_datum : Pinned.datum ((Rows.stepperNilRow.laid.map (·.1)).getD 13 "") = some Rows.laid_unicode_utf8_first := by kernel_rfl
end Go.Proofs.YthpjnjmlbeglnaaGreatDoor
