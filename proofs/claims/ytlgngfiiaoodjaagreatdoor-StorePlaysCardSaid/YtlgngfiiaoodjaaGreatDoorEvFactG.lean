/- The types' layout, in parts. -/
import Derived.Test.YtlgngfiiaoodjaaGreatDoorProg
import Derived.Test.YtlgngfiiaoodjaaGreatDoorEvWitLaw
import Derived.KernelRfl
namespace Go.Proofs.YtlgngfiiaoodjaaGreatDoor
open Go
set_option maxRecDepth 100000
theorem types_size : Tryz.prog.types.size = 656 := by kernel_rfl
theorem rows_fine0 : ((List.range' 0 130).all (rowFine Tryz.prog)) = true := by kernel_rfl
theorem rows_fine1 : ((List.range' 130 130).all (rowFine Tryz.prog)) = true := by kernel_rfl
theorem rows_fine2 : ((List.range' 260 130).all (rowFine Tryz.prog)) = true := by kernel_rfl
theorem rows_fine3 : ((List.range' 390 130).all (rowFine Tryz.prog)) = true := by kernel_rfl
theorem rows_fine4 : ((List.range' 520 130).all (rowFine Tryz.prog)) = true := by kernel_rfl
theorem rows_fine5 : ((List.range' 650 6).all (rowFine Tryz.prog)) = true := by kernel_rfl
theorem globals_typed : (Tryz.prog.globals.all fun g => decide (g.type < Tryz.prog.types.size)) = true := by kernel_rfl
theorem params_typed : (Tryz.prog.funcs.all fun f => f.params.all fun t => decide (t < Tryz.prog.types.size)) = true := by kernel_rfl
theorem laidOut : laidOutB Tryz.prog = true := by
  refine Ev.laidOut_of types_size (fun t h => ?_) globals_typed params_typed
  rcases Nat.lt_or_ge t 130 with h0 | h0
  · exact Ev.in_part rows_fine0 t (Nat.zero_le _) h0
  rcases Nat.lt_or_ge t 260 with h1 | h1
  · exact Ev.in_part rows_fine1 t h0 h1
  rcases Nat.lt_or_ge t 390 with h2 | h2
  · exact Ev.in_part rows_fine2 t h1 h2
  rcases Nat.lt_or_ge t 520 with h3 | h3
  · exact Ev.in_part rows_fine3 t h2 h3
  rcases Nat.lt_or_ge t 650 with h4 | h4
  · exact Ev.in_part rows_fine4 t h3 h4
  rcases Nat.lt_or_ge t 656 with h5 | h5
  · exact Ev.in_part rows_fine5 t h4 h5
  omega
end Go.Proofs.YtlgngfiiaoodjaaGreatDoor
