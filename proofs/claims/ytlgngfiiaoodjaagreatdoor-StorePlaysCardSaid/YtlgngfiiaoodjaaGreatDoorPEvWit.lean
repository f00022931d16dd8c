/- A world that fits: the one that the program's own initialisers leave, with the pinned table laid. -/
import Derived.Test.YtlgngfiiaoodjaaGreatDoorRows
import Derived.LaidMore
import Derived.LaidLaws
import Derived.KernelRfl
namespace Go.Proofs.YtlgngfiiaoodjaaGreatDoor
open Go
set_option maxRecDepth 100000
def firstOf : DataW Unit → List Value
  | .agg ds => ds.map fun d => match d with | .lit (.int k z) => .int k z | _ => .nilFunc
  | _ => []
def firstCells : Array Value := (firstOf Rows.laid_unicode_utf8_first).toArray
noncomputable def wit (os : Os) : World :=
  { World.doorLaid Tryz.prog 121 os with heap := (World.doorLaid Tryz.prog 121 os).heap.modify 11 fun o => match o with | .cells _ t fz => .cells firstCells t fz | o => o }
def witArgs : Array Value := #[.int .i64 0, .int .i64 0, .slice none 0 0]
noncomputable abbrev witW (os : Os) : World := (wit os).forCall (fun _ _ => 0) ⟨#[], witArgs, []⟩
theorem wit_os (os : Os) : (wit os).os = os := rfl
end Go.Proofs.YtlgngfiiaoodjaaGreatDoor
