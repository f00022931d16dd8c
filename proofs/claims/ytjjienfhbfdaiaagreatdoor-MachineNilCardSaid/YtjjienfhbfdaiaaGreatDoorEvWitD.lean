/- That world has the shape of the program's. -/
import Derived.Test.YtjjienfhbfdaiaaGreatDoorEvWit
namespace Go.Proofs.YtjjienfhbfdaiaaGreatDoor
open Go
set_option maxRecDepth 100000
theorem wit_shaped (os : Os) : (witW os).Shaped Tryz.checked.prog := World.shaped_of_RefB (by kernel_rfl) (by kernel_rfl)
end Go.Proofs.YtjjienfhbfdaiaaGreatDoor
