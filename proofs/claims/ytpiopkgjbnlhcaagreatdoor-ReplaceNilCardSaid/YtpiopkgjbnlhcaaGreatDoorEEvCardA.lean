/- No text of the program starts a goroutine. -/
import Derived.Test.YtpiopkgjbnlhcaaGreatDoorRows
import Derived.SevenTiedAt
import Derived.KernelRfl
namespace Go.Proofs.YtpiopkgjbnlhcaaGreatDoor
open Go
set_option maxRecDepth 100000
theorem none_goes : (Tryz.prog.funcs.toList.all fun f => !f.goes) = true := by kernel_rfl
theorem goesAt_of {P : Program} (h : (P.funcs.toList.all fun f => !f.goes) = true) (func : String) : false = P.goesAt .entering func := by
  have h1 : ∀ g : Nat, (P.funcs[g]?).any Func.goes = false := by
    intro g
    cases hg : P.funcs[g]? with
    | none => rfl
    | some f =>
      have := List.all_eq_true.1 h f (List.mem_of_getElem? (by rw [Array.getElem?_toList]; exact hg))
      simpa using this
  have h2 : P.funcs.any Func.goes = false := by
    rw [← Array.any_toList]
    refine List.any_eq_false.2 fun f hf => ?_
    have := List.all_eq_true.1 h f hf
    simpa using this
  have h3 : ∀ f, P.goes f = false := by
    intro f
    unfold Program.goes
    rw [h2, Bool.and_false, Bool.or_false]
    simp [h1]
  unfold Program.goesAt Program.goesFrom
  cases hf : P.funcNamed func with
  | none => rfl
  | some f => simp [h3]
theorem card_goes : false = Rows.replaceNilRow.goesBy Tryz.pinned.checked.prog := goesAt_of none_goes _
end Go.Proofs.YtpiopkgjbnlhcaaGreatDoor
