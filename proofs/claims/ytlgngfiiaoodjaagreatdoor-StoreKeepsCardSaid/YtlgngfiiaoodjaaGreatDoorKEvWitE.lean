/- The arguments fit that world. -/
import Derived.Test.YtlgngfiiaoodjaaGreatDoorKEvWit
namespace Go.Proofs.YtlgngfiiaoodjaaGreatDoor
open Go
set_option maxRecDepth 100000
section
variable {H : Type} (enc : TypeId × Value → H)
theorem wit_ok (os : Os) : Input.okWideB Tryz.checked.prog (witW os) 3 ⟨#[], witArgs, []⟩ = true := by kernel_rfl
theorem wit_pre (os : Os) : Rows.storeKeepsSpec.preB enc Tryz.checked.prog Tryz.f3 [] false (witW os).memory witArgs 8 = true := by kernel_rfl
theorem wit_sized (os : Os) : Rows.storeKeepsSpec.sizedB enc Tryz.checked.prog Tryz.f3 false (witW os).memory witArgs 8 = true := by kernel_rfl
end
end Go.Proofs.YtlgngfiiaoodjaaGreatDoor
