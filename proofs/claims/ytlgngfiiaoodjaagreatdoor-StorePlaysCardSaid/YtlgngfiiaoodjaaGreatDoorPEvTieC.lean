/- The tie: what the door's run leaves is what is listed: in parts. -/
import Derived.Test.YtlgngfiiaoodjaaGreatDoorPEvTieA
import Derived.Test.YtlgngfiiaoodjaaGreatDoorEvWitLaw
import Derived.KernelRfl
namespace Go.Proofs.YtlgngfiiaoodjaaGreatDoor
open Go
set_option maxRecDepth 100000
theorem tie_done : ∀ os tape, Ev.doorDone Tryz.prog 121 os tape = true := fun _ _ => by kernel_rfl
theorem tie_run0 : ∀ os tape, (DataW.laidRun Tryz.prog (Ev.doorW Tryz.prog 121 os tape).memory 8 (((tieL.filter fun x => x.2.handleName?.isNone).take 8).map (·.1))).map (fun x => (x.1, nodupBits 257 x.2 0 && laidRowsB Tryz.prog (Ev.doorW Tryz.prog 121 os tape).memory x.2 && x.2.all (Ev.plIn [13, 14, 9, 12, 8, 7, 10, 6] 16))) = some ((tieL.filter fun x => x.2.handleName?.isNone).take 8, true) := fun _ _ => by kernel_rfl
theorem tie_run1 : ∀ os tape, (DataW.laidRun Tryz.prog (Ev.doorW Tryz.prog 121 os tape).memory 8 (((tieL.filter fun x => x.2.handleName?.isNone).drop 8).map (·.1))).map (fun x => (x.1, nodupBits 257 x.2 0 && laidRowsB Tryz.prog (Ev.doorW Tryz.prog 121 os tape).memory x.2 && x.2.all (fun p => !(Ev.plIn [13, 14, 9, 12, 8, 7, 10, 6] 16 p)))) = some ((tieL.filter fun x => x.2.handleName?.isNone).drop 8, true) := fun _ _ => by kernel_rfl
theorem tie_handles : ∀ os tape, (tieL.filter fun x => x.2.handleName?.isSome && x.2.funcsIn?.isNone).all (handleAtB Tryz.prog (Ev.doorW Tryz.prog 121 os tape).memory) = true := fun _ _ => by kernel_rfl
theorem tie_funcs : ∀ os tape, funcsRun Tryz.prog (Ev.doorW Tryz.prog 121 os tape).memory 8 ((funcsListed tieL).map (·.1)) = some ((funcsListed tieL).map (·.2.funcsOut)) := fun _ _ => by kernel_rfl
end Go.Proofs.YtlgngfiiaoodjaaGreatDoor
