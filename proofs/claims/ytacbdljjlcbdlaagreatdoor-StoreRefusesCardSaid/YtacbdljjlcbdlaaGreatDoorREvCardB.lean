/- Closed facts of the card. -/
import Derived.Test.YtacbdljjlcbdlaaGreatDoorRows
import Derived.SevenTiedAt
import Derived.KernelRfl
namespace Go.Proofs.YtacbdljjlcbdlaaGreatDoor
open Go
set_option maxRecDepth 100000
theorem card_wf : Rows.storeRefusesRow.wfByText (OpenSpec.ofChange Rows.storeRefusesSpec) = true := by kernel_rfl
theorem card_main : Tryz.pinned.checked.prog.mainIs = some (true, "9c3145740d3b33b342c8e0f7f3461a69abdd6bf1566168714144cf784746c4fe".toList) := by kernel_rfl
theorem card_named : Tryz.pinned.checked.prog.funcNamed Rows.storeRefusesRow.func = some 3 := by kernel_rfl
theorem card_looks : true = Tryz.pinned.checked.prog.looks [] := by kernel_rfl
theorem card_stand : (([5, 22, 22] : List Nat).all fun u => !Tryz.pinned.checked.prog.wantsStandIn u) = true := by kernel_rfl
theorem card_datum : Pinned.datum ((Rows.storeRefusesRow.laid.map (·.1)).getD 13 "") = some Rows.laid_unicode_utf8_first := by kernel_rfl
end Go.Proofs.YtacbdljjlcbdlaaGreatDoor
