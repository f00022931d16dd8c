/-
  DERIVED. GIVEN WITH THE SEED: THE CARDS: each row of YthpjnjmlbeglnaaGreatDoorRows.lean that lists a variable, with what it lists TIED to the program's text (the seventh form; the later family's looks); each row that meets fmt, with fmt's text TOLD by the authors' own Lean function (tested against real Go, not proved from fmt's source: count such statements apart). THE CARD IS WHAT COUNTS. Prove the row's statement (the work); the ties are given (YthpjnjmlbeglnaaGreatDoorTie.lean); close each card by the builder's one call (the guide's Derived/Test/ToyasCard.lean, 'card_holds'). Laid BY PROGRAM, IN A SANDBOX (cutbox-door.mjs). By AI agents, Wed Nov 11 2026. No macro, syntax, notation, axiom, sorry.
-/
import Derived.Test.YthpjnjmlbeglnaaGreatDoorRows
import GoSem.ClaimSeven
namespace Go.Proofs.YthpjnjmlbeglnaaGreatDoor
namespace Rows

/-- THE TIED CARD OF 'rewindlaw31.StepperNil'. -/
def stepperNilCard : Claim7 := { stood := { row := stepperNilRow, standIns := [], harness := (true, "ba459322edd8b85fa952e5613461bcfa5626b4dc55fe9a25b886a4cd81def243"), looks := true }, kinds := [], alts := [], laidByText := true, laidKinds := [.data, .data, .data, .data, .sentinel, .sentinel, .listed, .data, .widerDeep, .widerDeep, .funcs, .data, .funcs, .pinned], laidTests := true, laidLooks := .later }
def StepperNilCardSaid : Prop := Claim7.holds Tryz.pinned (.plain (OpenSpec.ofChange stepperNilSpec)) stepperNilCard

/-- THE SECOND FORM's CARD OF 'rewindlaw31.StepperNil'. -/
def stepperNilUptoCard : Claim7 := { stood := { row := stepperNilUptoRow, standIns := [], harness := (true, "ba459322edd8b85fa952e5613461bcfa5626b4dc55fe9a25b886a4cd81def243"), looks := true }, kinds := [], alts := [], laidByText := true, laidKinds := [.data, .data, .data, .data, .sentinel, .sentinel, .listed, .data, .widerDeep, .widerDeep, .funcs, .data, .funcs, .pinned], laidTests := true, laidLooks := .later }
def StepperNilUptoCardSaid : Prop := Claim7.holds Tryz.pinned (.plain (OpenSpec.upto stepperNilSpec)) stepperNilUptoCard
end Rows
end Go.Proofs.YthpjnjmlbeglnaaGreatDoor
