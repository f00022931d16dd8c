/- In that world the tables of functions read as listed. -/
import Derived.Test.YtlgngfiiaoodjaaGreatDoorPEvWit
namespace Go.Proofs.YtlgngfiiaoodjaaGreatDoor
open Go
set_option maxRecDepth 100000
theorem wit_handles (os : Os) : (Rows.storePlaysRow.laid.filter fun x => x.2.handleName?.isSome && x.2.funcsIn?.isNone).all (handleAtB Tryz.prog (witW os).memory) = true := by kernel_rfl
theorem wit_funcs (os : Os) : funcsRun Tryz.prog (witW os).memory 8 ((funcsListed Rows.storePlaysRow.laid).map (·.1)) = some ((funcsListed Rows.storePlaysRow.laid).map (·.2.funcsOut)) := by kernel_rfl
end Go.Proofs.YtlgngfiiaoodjaaGreatDoor
