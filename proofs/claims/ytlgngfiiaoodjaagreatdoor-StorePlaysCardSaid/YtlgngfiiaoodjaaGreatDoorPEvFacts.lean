/- The row's closed facts. -/
import Derived.Test.YtlgngfiiaoodjaaGreatDoorPEvFactP
import Derived.Test.YtlgngfiiaoodjaaGreatDoorPEvFactQ
import Derived.Test.YtlgngfiiaoodjaaGreatDoorPEvFactR
import Derived.Test.YtlgngfiiaoodjaaGreatDoorEvFactG
namespace Go.Proofs.YtlgngfiiaoodjaaGreatDoor
open Go
set_option maxRecDepth 100000
theorem and2 {a b : Bool} (h : a = true) (h' : b = true) : (a && b) = true := by rw [h, h']; rfl
theorem fact1 : (laidOutB Tryz.checked.prog) = true := laidOut
theorem facts : joinedFacts Tryz.checked.prog 7 Tryz.f7 Rows.storePlaysSpec Rows.storePlaysRow = true := (and2 (and2 (and2 (and2 (and2 (and2 (and2 (and2 (and2 (and2 (and2 (and2 (and2 (and2 (and2 (and2 (and2 (and2 (and2 (and2 (and2 (and2 (and2 (and2 (and2 (and2 (and2 (and2 (and2 (and2 (and2 fact0 fact1) fact2) fact3) fact4) fact5) fact6) fact7) fact8) fact9) fact10) fact11) fact12) fact13) fact14) fact15) fact16) fact17) fact18) fact19) fact20) fact21) fact22) fact23) fact24) fact25) fact26) fact27) fact28) fact29) fact30) fact31)
end Go.Proofs.YtlgngfiiaoodjaaGreatDoor
