/- That world has the shape of the program's. -/
import Derived.Test.YtlgngfiiaoodjaaGreatDoorPEvWit
namespace Go.Proofs.YtlgngfiiaoodjaaGreatDoor
open Go
set_option maxRecDepth 100000
theorem wit_refs (os : Os) : (witW os).variablesRefB Tryz.prog = true := by kernel_rfl
theorem wit_rest (os : Os) : ((witW os).heap.toList.drop Tryz.prog.globals.size).take ((begin Tryz.prog (fun _ _ => 0) default).world.heap.size - Tryz.prog.globals.size) =
    (begin Tryz.prog (fun _ _ => 0) default).world.heap.toList.drop Tryz.prog.globals.size := by kernel_rfl
theorem wit_shaped (os : Os) : (witW os).Shaped Tryz.checked.prog := World.shaped_of_RefB (wit_refs os) (wit_rest os)
end Go.Proofs.YtlgngfiiaoodjaaGreatDoor
