/- Closed facts of the card. -/
import Derived.Test.YtpiopkgjbnlhcaaGreatDoorRows
import Derived.SevenTiedAt
import Derived.KernelRfl
namespace Go.Proofs.YtpiopkgjbnlhcaaGreatDoor
open Go
set_option maxRecDepth 100000
theorem card_wf : Rows.replaceNilRow.wfByText (OpenSpec.ofChange Rows.replaceNilSpec) = true := by kernel_rfl
theorem card_main : Tryz.pinned.checked.prog.mainIs = some (true, "5aaa89d6da71c63a3c6540a274ff45dd8206b0a81a49af2edd6e6cadd341af13".toList) := by kernel_rfl
theorem card_named : Tryz.pinned.checked.prog.funcNamed Rows.replaceNilRow.func = some 3 := by kernel_rfl
theorem card_looks : true = Tryz.pinned.checked.prog.looks [] := by kernel_rfl
theorem card_stand : (([24, 4] : List Nat).all fun u => !Tryz.pinned.checked.prog.wantsStandIn u) = true := by kernel_rfl
theorem card_datum : Pinned.datum ((Rows.replaceNilRow.laid.map (·.1)).getD 15 "") = some Rows.laid_unicode_utf8_first := by kernel_rfl
end Go.Proofs.YtpiopkgjbnlhcaaGreatDoor
