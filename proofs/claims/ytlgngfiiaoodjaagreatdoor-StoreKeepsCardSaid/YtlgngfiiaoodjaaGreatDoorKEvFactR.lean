/- The row's closed facts, part E. -/
import Derived.Test.YtlgngfiiaoodjaaGreatDoorRows
import Derived.JoinedOf
import Derived.KernelRfl
/- The row's closed facts, part E. -/
namespace Go.Proofs.YtlgngfiiaoodjaaGreatDoor
open Go
set_option maxRecDepth 100000
theorem fact13 : ((Rows.storeKeepsRow.maps == (Tryz.f3.params.toList ++ Rows.storeKeepsSpec.plain.varTypes Tryz.checked.prog).any (Tryz.checked.prog.mapsRec ·))) = true := by kernel_rfl
theorem fact14 : ((Rows.storeKeepsRow.ifaces == (Tryz.f3.params.toList ++ Rows.storeKeepsSpec.plain.varTypes Tryz.checked.prog).any (Tryz.checked.prog.ifacesRec ·))) = true := by kernel_rfl
theorem fact15 : ((Rows.storeKeepsRow.mapsOut == Tryz.checked.prog.mapsAmong Tryz.f3.resultTypes.toList)) = true := by kernel_rfl
theorem fact16 : ((Rows.storeKeepsRow.loops == (Tryz.f3.params.toList ++ Rows.storeKeepsSpec.plain.varTypes Tryz.checked.prog).any (Tryz.checked.prog.loopsFrom ·))) = true := by kernel_rfl
theorem fact17 : ((Rows.storeKeepsRow.wideKeys == (Tryz.f3.params.toList ++ Rows.storeKeepsSpec.plain.varTypes Tryz.checked.prog ++ Tryz.f3.resultTypes.toList).any (Tryz.checked.prog.wideKeysFrom ·))) = true := by kernel_rfl
theorem fact18 : (Rows.storeKeepsSpec.vars.all (Tryz.checked.prog.varReadable ·)) = true := by kernel_rfl
theorem fact19 : (Tryz.f3.resultTypes.all (fun t => Tryz.checked.prog.readableRec t && decide (t < Tryz.checked.prog.types.size))) = true := by kernel_rfl
theorem fact20 : ((Rows.storeKeepsRow.ifacesOut == Tryz.f3.resultTypes.toList.any (Tryz.checked.prog.ifacesRec ·))) = true := by kernel_rfl
theorem fact21 : ((Rows.storeKeepsRow.loopsOut == Tryz.f3.resultTypes.toList.any (Tryz.checked.prog.loopsFrom ·))) = true := by kernel_rfl
theorem fact22 : ((Rows.storeKeepsRow.plainKeys == Tryz.checked.prog.plainKeys)) = true := by kernel_rfl
theorem fact23 : (Rows.storeKeepsRow.shortTexts.isNone) = true := by kernel_rfl
end Go.Proofs.YtlgngfiiaoodjaaGreatDoor
/- The row's closed facts, part F. -/
namespace Go.Proofs.YtlgngfiiaoodjaaGreatDoor
open Go
set_option maxRecDepth 100000
theorem fact24 : (Tryz.checked.prog.stopsHeard) = true := by kernel_rfl
theorem fact25 : (Tryz.checked.prog.mayEnter) = true := by kernel_rfl
theorem fact26 : ((Rows.storeKeepsRow.lifted == Tryz.checked.prog.liftsFinal)) = true := by kernel_rfl
theorem fact27 : ((Tryz.checked.prog.make == some Rows.storeKeepsRow.make)) = true := by kernel_rfl
theorem fact28 : ((Rows.storeKeepsRow.kinds == (if Rows.storeKeepsRow.domain.isEmpty then [] else Tryz.f3.params.toList.map fun t => match Tryz.checked.prog.underlying t with | some (.int k) => some k | _ => none))) = true := by kernel_rfl
theorem fact29 : ((Rows.storeKeepsRow.pinned == Rows.storeKeepsRow.pinnedBy)) = true := by kernel_rfl
theorem fact30 : ((Rows.storeKeepsRow.veiled == (Tryz.f3.params.toList ++ Rows.storeKeepsSpec.plain.varTypes Tryz.checked.prog ++ Tryz.f3.resultTypes.toList).any (Tryz.checked.prog.veiledRec ·))) = true := by kernel_rfl
theorem fact31 : (Rows.storeKeepsRow.veiledFits Tryz.checked.prog Tryz.f3.params.toList (Tryz.f3.params.toList ++ Rows.storeKeepsSpec.plain.varTypes Tryz.checked.prog ++ Tryz.f3.resultTypes.toList)) = true := by kernel_rfl
end Go.Proofs.YtlgngfiiaoodjaaGreatDoor
