/- The arguments fit that world. -/
import Derived.Test.YtlgngfiiaoodjaaGreatDoorFEvWit
namespace Go.Proofs.YtlgngfiiaoodjaaGreatDoor
open Go
set_option maxRecDepth 100000
section
variable {H : Type} (enc : TypeId × Value → H)
theorem wit_ok (os : Os) : Input.okWideB Tryz.checked.prog (witW os) 4 ⟨#[], witArgs, []⟩ = true := by kernel_rfl
theorem wit_pre (os : Os) : Rows.storeFirstSpec.preB enc Tryz.checked.prog Tryz.f4 [] false (witW os).memory witArgs 8 = true := by kernel_rfl
theorem wit_sized (os : Os) : Rows.storeFirstSpec.sizedB enc Tryz.checked.prog Tryz.f4 false (witW os).memory witArgs 8 = true := by kernel_rfl
end
end Go.Proofs.YtlgngfiiaoodjaaGreatDoor
