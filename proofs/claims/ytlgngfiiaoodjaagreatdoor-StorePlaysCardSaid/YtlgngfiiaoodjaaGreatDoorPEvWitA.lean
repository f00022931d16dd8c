/- In that world the listed variables read as listed, and no cell is met twice: in two parts. -/
import Derived.Test.YtlgngfiiaoodjaaGreatDoorPEvWit
import Derived.Test.YtlgngfiiaoodjaaGreatDoorEvWitLaw
namespace Go.Proofs.YtlgngfiiaoodjaaGreatDoor
open Go
set_option maxRecDepth 100000
theorem wit_run0 (os : Os) : (DataW.laidRun Tryz.prog (witW os).memory 8 (((Rows.storePlaysRow.laid.filter fun x => x.2.handleName?.isNone).take 8).map (·.1))).map (fun x => (x.1, nodupBits 257 x.2 0 && laidRowsB Tryz.prog (witW os).memory x.2 && x.2.all (Ev.plIn [13, 14, 9, 12, 8, 7, 10, 6] 16))) =
    some ((Rows.storePlaysRow.laid.filter fun x => x.2.handleName?.isNone).take 8, true) := by kernel_rfl
theorem wit_run1 (os : Os) : (DataW.laidRun Tryz.prog (witW os).memory 8 (((Rows.storePlaysRow.laid.filter fun x => x.2.handleName?.isNone).drop 8).map (·.1))).map (fun x => (x.1, nodupBits 257 x.2 0 && laidRowsB Tryz.prog (witW os).memory x.2 && x.2.all (fun p => !(Ev.plIn [13, 14, 9, 12, 8, 7, 10, 6] 16 p)))) =
    some ((Rows.storePlaysRow.laid.filter fun x => x.2.handleName?.isNone).drop 8, true) := by kernel_rfl
theorem wit_laid (os : Os) : laidMet Tryz.prog (Rows.storePlaysRow.laid.filter fun x => x.2.handleName?.isNone) (witW os).memory := by
  have h := Ev.laidMet_of_two (wit_run0 os) (wit_run1 os)
  rw [List.take_append_drop] at h
  exact h
end Go.Proofs.YtlgngfiiaoodjaaGreatDoor
