/- No text of the program starts a goroutine. -/
import Derived.Test.YtlgngfiiaoodjaaGreatDoorRows
import Derived.SevenTiedAt
import Derived.KernelRfl
/- No text of the program starts a goroutine. -/
namespace Go.Proofs.YtlgngfiiaoodjaaGreatDoor
open Go
set_option maxRecDepth 100000
theorem none_goes : (Tryz.prog.funcs.toList.all fun f => !f.goes) = true := by kernel_rfl
theorem goesAt_of {P : Program} (h : (P.funcs.toList.all fun f => !f.goes) = true) (func : String) : false = P.goesAt .entering func := by
  have h1 : ∀ g : Nat, (P.funcs[g]?).any Func.goes = false := by
    intro g
    cases hg : P.funcs[g]? with
    | none => rfl
    | some f =>
      have := List.all_eq_true.1 h f (List.mem_of_getElem? (by rw [Array.getElem?_toList]; exact hg))
      simpa using this
  have h2 : P.funcs.any Func.goes = false := by
    rw [← Array.any_toList]
    refine List.any_eq_false.2 fun f hf => ?_
    have := List.all_eq_true.1 h f hf
    simpa using this
  have h3 : ∀ f, P.goes f = false := by
    intro f
    unfold Program.goes
    rw [h2, Bool.and_false, Bool.or_false]
    simp [h1]
  unfold Program.goesAt Program.goesFrom
  cases hf : P.funcNamed func with
  | none => rfl
  | some f => simp [h3]
theorem card_goes : false = Rows.storePlaysRow.goesBy Tryz.pinned.checked.prog := goesAt_of none_goes _
end Go.Proofs.YtlgngfiiaoodjaaGreatDoor
/- Closed facts of the card. -/
namespace Go.Proofs.YtlgngfiiaoodjaaGreatDoor
open Go
set_option maxRecDepth 100000
theorem card_wf : Rows.storePlaysRow.wfByText (OpenSpec.ofChange Rows.storePlaysSpec) = true := by kernel_rfl
theorem card_main : Tryz.pinned.checked.prog.mainIs = some (true, "c4fcf0fea7c7b139469a17b2dcaa2185b71ca1b5298b9ae60d0c3caa92c3c5ec".toList) := by kernel_rfl
theorem card_named : Tryz.pinned.checked.prog.funcNamed Rows.storePlaysRow.func = some 7 := by kernel_rfl
theorem card_looks : true = Tryz.pinned.checked.prog.looks [] := by kernel_rfl
theorem card_stand : (([3, 3, 50] : List Nat).all fun u => !Tryz.pinned.checked.prog.wantsStandIn u) = true := by kernel_rfl
theorem card_datum : Pinned.datum ((Rows.storePlaysRow.laid.map (·.1)).getD 13 "") = some Rows.laid_unicode_utf8_first := by kernel_rfl
end Go.Proofs.YtlgngfiiaoodjaaGreatDoor
