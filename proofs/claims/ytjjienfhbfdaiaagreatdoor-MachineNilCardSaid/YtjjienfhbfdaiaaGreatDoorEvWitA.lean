/- In that world the listed variables read as listed, and no cell is met twice. -/
import Derived.Test.YtjjienfhbfdaiaaGreatDoorEvWit
import Derived.LaidOnce
namespace Go.Proofs.YtjjienfhbfdaiaaGreatDoor
open Go
set_option maxRecDepth 100000
theorem wit_run (os : Os) : (DataW.laidRun Tryz.prog (witW os).memory 8 ((Rows.machineNilRow.laid.filter fun x => x.2.handleName?.isNone).map (·.1))).map (fun x => (x.1, nodupBits 257 x.2 0 && laidRowsB Tryz.prog (witW os).memory x.2)) =
    some (Rows.machineNilRow.laid.filter fun x => x.2.handleName?.isNone, true) := by kernel_rfl
theorem wit_laid (os : Os) : laidMet Tryz.prog (Rows.machineNilRow.laid.filter fun x => x.2.handleName?.isNone) (witW os).memory := by
  have h := wit_run os
  simp only [Option.map_eq_some_iff, Prod.mk.injEq, Bool.and_eq_true] at h
  obtain ⟨x, hx, h1, h2, h3⟩ := h
  exact laidMet_of_run (ps := x.2) 8 (by rw [hx, ← h1]) (decide_eq_true (nodupBits_sound h2).1) h3
end Go.Proofs.YtjjienfhbfdaiaaGreatDoor
