/- A world that fits: the one that the program's own initialisers leave, with the pinned table laid. -/
import Derived.Test.YtpiopkgjbnlhcaaGreatDoorRows
import Derived.LaidMore
import Derived.LaidLaws
import Derived.KernelRfl
namespace Go.Proofs.YtpiopkgjbnlhcaaGreatDoor
open Go
set_option maxRecDepth 100000
def firstOf : DataW Unit → List Value
  | .agg ds => ds.map fun d => match d with | .lit (.int k z) => .int k z | _ => .nilFunc
  | _ => []
def firstCells : Array Value := (firstOf Rows.laid_unicode_utf8_first).toArray
noncomputable def wit (os : Os) : World :=
  { World.doorLaid Tryz.prog 140 os with heap := (World.doorLaid Tryz.prog 140 os).heap.modify 13 fun o => match o with | .cells _ t fz => .cells firstCells t fz | o => o }
def witArgs : Array Value := #[.agg #[.string .empty, .int .i64 0, .slice none 0 0], .bool false]
noncomputable abbrev witW (os : Os) : World := (wit os).forCall (fun _ _ => 0) ⟨#[], witArgs, []⟩
theorem wit_os (os : Os) : (wit os).os = os := rfl
end Go.Proofs.YtpiopkgjbnlhcaaGreatDoor
