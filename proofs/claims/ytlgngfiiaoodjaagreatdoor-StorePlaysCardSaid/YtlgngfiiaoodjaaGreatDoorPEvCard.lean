/- The law StorePlays of the given program, as a tied card: for every n and way the call returns true and leaves everything as it was; its listed variables hold what the program's own text lays. No condition beyond the card's own. -/
import Derived.Test.YtlgngfiiaoodjaaGreatDoorPEvRow
import Derived.Test.YtlgngfiiaoodjaaGreatDoorPEvTieB
import Derived.Test.YtlgngfiiaoodjaaGreatDoorPEvCardP
import Derived.Test.YtlgngfiiaoodjaaGreatDoorPEvTieC
import Derived.Test.YtlgngfiiaoodjaaGreatDoorPEvTieD
import Derived.Test.YtlgngfiiaoodjaaGreatDoorCards
import Derived.SevenTiedAt
set_option linter.unusedVariables false
set_option linter.unusedSimpArgs false
namespace Go.Proofs.YtlgngfiiaoodjaaGreatDoor
open Go
set_option maxRecDepth 100000
theorem tie_all : Tryz.prog.laidByTextLater tieL tieK true := Ev.laidByText_parts 121 8 257 8 16 [13, 14, 9, 12, 8, 7, 10, 6] tie_w tie_w' tie_root tie_k tie_g tie_n tie_done tie_run0 tie_run1 tie_handles tie_funcs
theorem row_tied : Rows.storePlaysRow.laidByTextAt .later Tryz.pinned [.data, .data, .data, .data, .sentinel, .sentinel, .listed, .data, .widerDeep, .widerDeep, .funcs, .data, .funcs, .pinned] true :=
  OpenClaim.laidByTextAt_pinned rfl rfl tie_all rfl rfl rfl rfl (fun y hy _e => by
    simp only [Rows.storePlaysRow, List.zip_cons_cons, List.zip_nil_right, List.mem_cons, List.mem_nil_iff, or_false] at hy
    rcases hy with rfl | rfl | rfl | rfl | rfl | rfl | rfl | rfl | rfl | rfl | rfl | rfl | rfl | rfl
    · cases _e
    · cases _e
    · cases _e
    · cases _e
    · cases _e
    · cases _e
    · cases _e
    · cases _e
    · cases _e
    · cases _e
    · cases _e
    · cases _e
    · cases _e
    · exact ⟨pin_first, card_datum⟩) fits_all
theorem card_holds : Rows.StorePlaysCardSaid :=
  Claim7.holds_tied_plain_at .later [] [.data, .data, .data, .data, .sentinel, .sentinel, .listed, .data, .widerDeep, .widerDeep, .funcs, .data, .funcs, .pinned] true (true, "c4fcf0fea7c7b139469a17b2dcaa2185b71ca1b5298b9ae60d0c3caa92c3c5ec") true
    row_holds (fun _ h => by cases h) card_wf (fun _ h => by cases h) row_tied rfl ⟨rfl, rfl⟩ card_main rfl
    (fun f fn hf hfn => by
      obtain rfl : f = 7 := Option.some.inj (card_named.symm.trans hf) |>.symm
      obtain rfl : fn = Tryz.f7 := (Option.some.inj (Tryz.func7.symm.trans hfn)).symm
      exact ⟨card_looks, fun j t ht => by
        rw [Tryz.params7] at ht
        have hm : t ∈ ([3, 3, 50] : List Nat) := by simpa using Array.mem_of_getElem? ht
        exact (show Tryz.pinned.checked.prog.wantsStandIn t = false by simpa using List.all_eq_true.1 card_stand t hm)⟩)
    card_goes
end Go.Proofs.YtlgngfiiaoodjaaGreatDoor
