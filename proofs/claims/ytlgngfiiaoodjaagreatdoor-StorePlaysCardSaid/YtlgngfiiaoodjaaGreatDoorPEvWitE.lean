/- The arguments fit that world. -/
import Derived.Test.YtlgngfiiaoodjaaGreatDoorPEvWit
namespace Go.Proofs.YtlgngfiiaoodjaaGreatDoor
open Go
set_option maxRecDepth 100000
section
variable {H : Type} (enc : TypeId × Value → H)
theorem wit_ok (os : Os) : Input.okWideB Tryz.checked.prog (witW os) 7 ⟨#[], witArgs, []⟩ = true := by kernel_rfl
theorem wit_pre (os : Os) : Rows.storePlaysSpec.preB enc Tryz.checked.prog Tryz.f7 [] false (witW os).memory witArgs 8 = true := by kernel_rfl
theorem wit_sized (os : Os) : Rows.storePlaysSpec.sizedB enc Tryz.checked.prog Tryz.f7 false (witW os).memory witArgs 8 = true := by kernel_rfl
end
end Go.Proofs.YtlgngfiiaoodjaaGreatDoor
