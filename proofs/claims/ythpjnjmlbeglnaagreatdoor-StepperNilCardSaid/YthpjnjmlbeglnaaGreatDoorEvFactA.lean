/- The row's closed facts, part A. -/
import Derived.Test.YthpjnjmlbeglnaaGreatDoorRows
import Derived.JoinedOf
import Derived.KernelRfl
namespace Go.Proofs.YthpjnjmlbeglnaaGreatDoor
open Go
set_option maxRecDepth 100000
theorem fact0 : (Rows.stepperNilRow.wf (OpenSpec.ofChange Rows.stepperNilSpec)) = true := by kernel_rfl
theorem fact1 : (laidOutB Tryz.checked.prog) = true := by kernel_rfl
theorem fact2 : (mapsRowed Tryz.checked.prog) = true := by kernel_rfl
theorem fact3 : (Tryz.f3.params.all (Tryz.checked.prog.readableRec ·)) = true := by kernel_rfl
theorem fact4 : (namedTie Tryz.checked.prog Rows.stepperNilRow.named Rows.stepperNilSpec.vars) = true := by kernel_rfl
theorem fact5 : ((Rows.stepperNilRow.stops == [])) = true := by kernel_rfl
theorem fact6 : ((Tryz.checked.prog.stops == [])) = true := by kernel_rfl
theorem fact7 : ((Rows.stepperNilRow.knobs == [])) = true := by kernel_rfl
theorem fact8 : ((Tryz.checked.prog.stopKnobs == [])) = true := by kernel_rfl
end Go.Proofs.YthpjnjmlbeglnaaGreatDoor
