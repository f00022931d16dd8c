/-
  DERIVED. GIVEN WITH THE SEED: THE CARDS: each row of YtpiopkgjbnlhcaaGreatDoorRows.lean that lists a variable, with what it lists TIED to the program's text (the seventh form; the later family's looks); each row that meets fmt, with fmt's text TOLD by the authors' own Lean function (tested against real Go, not proved from fmt's source: count such statements apart). THE CARD IS WHAT COUNTS. Prove the row's statement (the work); the ties are given (YtpiopkgjbnlhcaaGreatDoorTie.lean); close each card by the builder's one call (the guide's Derived/Test/ToyasCard.lean, 'card_holds'). Laid BY PROGRAM, IN A SANDBOX (cutbox-door.mjs). By AI agents, Wed Nov 11 2026. No macro, syntax, notation, axiom, sorry.
-/
import Derived.Test.YtpiopkgjbnlhcaaGreatDoorRows
import GoSem.ClaimSeven
namespace Go.Proofs.YtpiopkgjbnlhcaaGreatDoor
namespace Rows

/-- THE TIED CARD OF 'rewindlaw41.ReplaceNil'. -/
def replaceNilCard : Claim7 := { stood := { row := replaceNilRow, standIns := [], harness := (true, "5aaa89d6da71c63a3c6540a274ff45dd8206b0a81a49af2edd6e6cadd341af13"), looks := true }, kinds := [], alts := [], laidByText := true, laidKinds := [.data, .data, .data, .data, .sentinel, .sentinel, .listed, .data, .widerDeep, .widerDeep, .funcs, .data, .data, .funcs, .data, .pinned], laidTests := true, laidLooks := .later }
def ReplaceNilCardSaid : Prop := Claim7.holds Tryz.pinned (.plain (OpenSpec.ofChange replaceNilSpec)) replaceNilCard

/-- THE SECOND FORM's CARD OF 'rewindlaw41.ReplaceNil'. -/
def replaceNilUptoCard : Claim7 := { stood := { row := replaceNilUptoRow, standIns := [], harness := (true, "5aaa89d6da71c63a3c6540a274ff45dd8206b0a81a49af2edd6e6cadd341af13"), looks := true }, kinds := [], alts := [], laidByText := true, laidKinds := [.data, .data, .data, .data, .sentinel, .sentinel, .listed, .data, .widerDeep, .widerDeep, .funcs, .data, .data, .funcs, .data, .pinned], laidTests := true, laidLooks := .later }
def ReplaceNilUptoCardSaid : Prop := Claim7.holds Tryz.pinned (.plain (OpenSpec.upto replaceNilSpec)) replaceNilUptoCard
end Rows
end Go.Proofs.YtpiopkgjbnlhcaaGreatDoor
