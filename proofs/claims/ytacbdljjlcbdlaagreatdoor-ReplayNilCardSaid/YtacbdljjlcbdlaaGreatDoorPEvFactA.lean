/- The row's closed facts, part A. -/
import Derived.Test.YtacbdljjlcbdlaaGreatDoorRows
import Derived.JoinedOf
import Derived.KernelRfl
namespace Go.Proofs.YtacbdljjlcbdlaaGreatDoor
open Go
set_option maxRecDepth 100000
theorem fact0 : (Rows.replayNilRow.wf (OpenSpec.ofChange Rows.replayNilSpec)) = true := by kernel_rfl
theorem fact2 : (mapsRowed Tryz.checked.prog) = true := by kernel_rfl
theorem fact3 : (Tryz.f8.params.all (Tryz.checked.prog.readableRec ·)) = true := by kernel_rfl
theorem fact4 : (namedTie Tryz.checked.prog Rows.replayNilRow.named Rows.replayNilSpec.vars) = true := by kernel_rfl
theorem fact5 : ((Rows.replayNilRow.stops == [])) = true := by kernel_rfl
theorem fact6 : ((Tryz.checked.prog.stops == [])) = true := by kernel_rfl
theorem fact7 : ((Rows.replayNilRow.knobs == [])) = true := by kernel_rfl
theorem fact8 : ((Tryz.checked.prog.stopKnobs == [])) = true := by kernel_rfl
end Go.Proofs.YtacbdljjlcbdlaaGreatDoor
