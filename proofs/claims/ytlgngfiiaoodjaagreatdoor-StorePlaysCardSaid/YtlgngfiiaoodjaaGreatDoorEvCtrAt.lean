/- The two calls of the library of which the end is told: at this program. -/
import Derived.Test.YtlgngfiiaoodjaaGreatDoorEvCut
import Derived.Test.YtlgngfiiaoodjaaGreatDoorEvLays
import Derived.Shelf.SortM.SortNone
namespace Go.Ev
open Go Go.Proofs Go.RowKit Go.Shelf
theorem cut1 (W : World) (lim n : Int) (val : Value) (a : Addr) (h : W.cell? a = some (.int .i64 lim)) :
    Calls Tryz.prog 35 #[.int .i64 n, val, .pointer (some a)] W fun e w' => e = .returned (.bool (decide (lim < n))) ∧ W.grownBy w' none := by
  go_enter Tryz.func35, Tryz.ntmps35
  go_wp2
  go_ret
  exact ⟨rfl, World.grownBy.refl _ _⟩
theorem cutCtr (E : Env) : CtrOk Tryz.prog E 34 (.cut 35) :=
  cut_ok (ρ := Tryz.delA_ren) Tryz.delA Tryz.underlying3 rfl (enters_of Tryz.func35 (by kernel_rfl) rfl) (enters_of Tryz.func34 (by kernel_rfl) rfl) cut1
theorem sorts_ok (m : Nat) : AnyZI.SortsIn Tryz.prog Tryz.sortedA_ren Fence.wide m :=
  ⟨fun blk off cap ss W hH hblk hsz => callsIn_wide.2 (AnyM.slices_Sort_int Tryz.sortA blk off cap ss W hH hblk hsz),
   fun p cap W => callsIn_wide.2 (AnyM.slices_Sort_int_none Tryz.sortA p cap W)⟩
theorem keysCtr (E : Env) : CtrOk Tryz.prog E 56 (.keys 87) :=
  keys_ok (ρ := Tryz.sortedA_ren) (ρ' := Tryz.keysA_ren) Tryz.sortedA { Tryz.keysA with } rfl rfl sorts_ok (enters_of Tryz.func86 (by kernel_rfl) rfl) (enters_of Tryz.func87 (by kernel_rfl) rfl) (enters_of Tryz.func56 (by kernel_rfl) rfl)
end Go.Ev
