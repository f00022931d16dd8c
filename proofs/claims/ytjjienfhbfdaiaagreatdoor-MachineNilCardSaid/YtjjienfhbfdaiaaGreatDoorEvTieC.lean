/- The tie: what the door's run leaves is what is listed. -/
import Derived.Test.YtjjienfhbfdaiaaGreatDoorEvTieA
import Derived.LaidByTextLater
import Derived.LaidOnce
import Derived.LaidSub
import Derived.KernelRfl
namespace Go.Proofs.YtjjienfhbfdaiaaGreatDoor
open Go
set_option maxRecDepth 100000
theorem tie_run : ∀ os tape, doorLeaves Tryz.prog 121 8 257 tieL os tape = some (tieL.filter fun x => x.2.handleName?.isNone, (funcsListed tieL).map (·.2.funcsOut)) := fun _ _ => by kernel_rfl
end Go.Proofs.YtjjienfhbfdaiaaGreatDoor
