/- The tie: what the door's text lays is what is listed. -/
import Derived.Test.YtlgngfiiaoodjaaGreatDoorPEvTieA
import Derived.LaidByTextLater
import Derived.LaidOnce
import Derived.LaidSub
import Derived.KernelRfl
namespace Go.Proofs.YtlgngfiiaoodjaaGreatDoor
open Go
set_option maxRecDepth 100000
theorem tie_n : varsNamedLaterB Tryz.prog (varsId Tryz.prog) tieL = true := by kernel_rfl
end Go.Proofs.YtlgngfiiaoodjaaGreatDoor
