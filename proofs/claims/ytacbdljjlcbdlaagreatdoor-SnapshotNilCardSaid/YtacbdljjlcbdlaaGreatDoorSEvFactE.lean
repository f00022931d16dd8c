/- The row's closed facts, part E. -/
import Derived.Test.YtacbdljjlcbdlaaGreatDoorRows
import Derived.JoinedOf
import Derived.KernelRfl
namespace Go.Proofs.YtacbdljjlcbdlaaGreatDoor
open Go
set_option maxRecDepth 100000
theorem fact13 : ((Rows.snapshotNilRow.maps == (Tryz.f5.params.toList ++ Rows.snapshotNilSpec.plain.varTypes Tryz.checked.prog).any (Tryz.checked.prog.mapsRec ·))) = true := by kernel_rfl
theorem fact14 : ((Rows.snapshotNilRow.ifaces == (Tryz.f5.params.toList ++ Rows.snapshotNilSpec.plain.varTypes Tryz.checked.prog).any (Tryz.checked.prog.ifacesRec ·))) = true := by kernel_rfl
theorem fact15 : ((Rows.snapshotNilRow.mapsOut == Tryz.checked.prog.mapsAmong Tryz.f5.resultTypes.toList)) = true := by kernel_rfl
theorem fact16 : ((Rows.snapshotNilRow.loops == (Tryz.f5.params.toList ++ Rows.snapshotNilSpec.plain.varTypes Tryz.checked.prog).any (Tryz.checked.prog.loopsFrom ·))) = true := by kernel_rfl
theorem fact17 : ((Rows.snapshotNilRow.wideKeys == (Tryz.f5.params.toList ++ Rows.snapshotNilSpec.plain.varTypes Tryz.checked.prog ++ Tryz.f5.resultTypes.toList).any (Tryz.checked.prog.wideKeysFrom ·))) = true := by kernel_rfl
theorem fact18 : (Rows.snapshotNilSpec.vars.all (Tryz.checked.prog.varReadable ·)) = true := by kernel_rfl
theorem fact19 : (Tryz.f5.resultTypes.all (fun t => Tryz.checked.prog.readableRec t && decide (t < Tryz.checked.prog.types.size))) = true := by kernel_rfl
theorem fact20 : ((Rows.snapshotNilRow.ifacesOut == Tryz.f5.resultTypes.toList.any (Tryz.checked.prog.ifacesRec ·))) = true := by kernel_rfl
theorem fact21 : ((Rows.snapshotNilRow.loopsOut == Tryz.f5.resultTypes.toList.any (Tryz.checked.prog.loopsFrom ·))) = true := by kernel_rfl
theorem fact22 : ((Rows.snapshotNilRow.plainKeys == Tryz.checked.prog.plainKeys)) = true := by kernel_rfl
theorem fact23 : (Rows.snapshotNilRow.shortTexts.isNone) = true := by kernel_rfl
end Go.Proofs.YtacbdljjlcbdlaaGreatDoor
