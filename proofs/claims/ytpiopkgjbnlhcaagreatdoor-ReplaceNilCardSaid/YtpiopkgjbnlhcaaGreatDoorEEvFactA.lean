/- The row's closed facts, part A. -/
import Derived.Test.YtpiopkgjbnlhcaaGreatDoorRows
import Derived.JoinedOf
import Derived.KernelRfl
namespace Go.Proofs.YtpiopkgjbnlhcaaGreatDoor
open Go
set_option maxRecDepth 100000
theorem fact0 : (Rows.replaceNilRow.wf (OpenSpec.ofChange Rows.replaceNilSpec)) = true := by kernel_rfl
theorem fact2 : (mapsRowed Tryz.checked.prog) = true := by kernel_rfl
theorem fact3 : (Tryz.f3.params.all (Tryz.checked.prog.readableRec ·)) = true := by kernel_rfl
theorem fact4 : (namedTie Tryz.checked.prog Rows.replaceNilRow.named Rows.replaceNilSpec.vars) = true := by kernel_rfl
theorem fact5 : ((Rows.replaceNilRow.stops == [])) = true := by kernel_rfl
theorem fact6 : ((Tryz.checked.prog.stops == [])) = true := by kernel_rfl
theorem fact7 : ((Rows.replaceNilRow.knobs == [])) = true := by kernel_rfl
theorem fact8 : ((Tryz.checked.prog.stopKnobs == [])) = true := by kernel_rfl
end Go.Proofs.YtpiopkgjbnlhcaaGreatDoor
