/- The row's closed facts, part E. -/
import Derived.Test.YtacbdljjlcbdlaaGreatDoorRows
import Derived.JoinedOf
import Derived.KernelRfl
namespace Go.Proofs.YtacbdljjlcbdlaaGreatDoor
open Go
set_option maxRecDepth 100000
theorem fact13 : ((Rows.storeRefusesRow.maps == (Tryz.f3.params.toList ++ Rows.storeRefusesSpec.plain.varTypes Tryz.checked.prog).any (Tryz.checked.prog.mapsRec ·))) = true := by kernel_rfl
theorem fact14 : ((Rows.storeRefusesRow.ifaces == (Tryz.f3.params.toList ++ Rows.storeRefusesSpec.plain.varTypes Tryz.checked.prog).any (Tryz.checked.prog.ifacesRec ·))) = true := by kernel_rfl
theorem fact15 : ((Rows.storeRefusesRow.mapsOut == Tryz.checked.prog.mapsAmong Tryz.f3.resultTypes.toList)) = true := by kernel_rfl
theorem fact16 : ((Rows.storeRefusesRow.loops == (Tryz.f3.params.toList ++ Rows.storeRefusesSpec.plain.varTypes Tryz.checked.prog).any (Tryz.checked.prog.loopsFrom ·))) = true := by kernel_rfl
theorem fact17 : ((Rows.storeRefusesRow.wideKeys == (Tryz.f3.params.toList ++ Rows.storeRefusesSpec.plain.varTypes Tryz.checked.prog ++ Tryz.f3.resultTypes.toList).any (Tryz.checked.prog.wideKeysFrom ·))) = true := by kernel_rfl
theorem fact18 : (Rows.storeRefusesSpec.vars.all (Tryz.checked.prog.varReadable ·)) = true := by kernel_rfl
theorem fact19 : (Tryz.f3.resultTypes.all (fun t => Tryz.checked.prog.readableRec t && decide (t < Tryz.checked.prog.types.size))) = true := by kernel_rfl
theorem fact20 : ((Rows.storeRefusesRow.ifacesOut == Tryz.f3.resultTypes.toList.any (Tryz.checked.prog.ifacesRec ·))) = true := by kernel_rfl
theorem fact21 : ((Rows.storeRefusesRow.loopsOut == Tryz.f3.resultTypes.toList.any (Tryz.checked.prog.loopsFrom ·))) = true := by kernel_rfl
theorem fact22 : ((Rows.storeRefusesRow.plainKeys == Tryz.checked.prog.plainKeys)) = true := by kernel_rfl
theorem fact23 : (Rows.storeRefusesRow.shortTexts.isNone) = true := by kernel_rfl
end Go.Proofs.YtacbdljjlcbdlaaGreatDoor
