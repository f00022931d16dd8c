/-
  DERIVED. GIVEN WITH THE SEED: THE CARDS: each row of YtacbdljjlcbdlaaGreatDoorRows.lean that lists a variable, with what it lists TIED to the program's text (the seventh form; the later family's looks); each row that meets fmt, with fmt's text TOLD by the authors' own Lean function (tested against real Go, not proved from fmt's source: count such statements apart). THE CARD IS WHAT COUNTS. Prove the row's statement (the work); the ties are given (YtacbdljjlcbdlaaGreatDoorTie.lean); close each card by the builder's one call (the guide's Derived/Test/ToyasCard.lean, 'card_holds'). Laid BY PROGRAM, IN A SANDBOX (cutbox-door.mjs). By AI agents, Wed Nov 11 2026. No macro, syntax, notation, axiom, sorry.
-/
import Derived.Test.YtacbdljjlcbdlaaGreatDoorRows
import GoSem.ClaimSeven
namespace Go.Proofs.YtacbdljjlcbdlaaGreatDoor
namespace Rows

/-- THE TIED CARD OF 'rewindlaw34.StoreRefuses'. -/
def storeRefusesCard : Claim7 := { stood := { row := storeRefusesRow, standIns := [], harness := (true, "9c3145740d3b33b342c8e0f7f3461a69abdd6bf1566168714144cf784746c4fe"), looks := true }, kinds := [], alts := [], laidByText := true, laidKinds := [.data, .data, .data, .data, .sentinel, .sentinel, .listed, .data, .widerDeep, .widerDeep, .funcs, .data, .funcs, .pinned], laidTests := true, laidLooks := .later }
def StoreRefusesCardSaid : Prop := Claim7.holds Tryz.pinned (.plain (OpenSpec.ofChange storeRefusesSpec)) storeRefusesCard

/-- THE TIED CARD OF 'rewindlaw34.StoreNil'. -/
def storeNilCard : Claim7 := { stood := { row := storeNilRow, standIns := [], harness := (true, "9c3145740d3b33b342c8e0f7f3461a69abdd6bf1566168714144cf784746c4fe"), looks := true }, kinds := [], alts := [], laidByText := true, laidKinds := [.data, .data, .data, .data, .sentinel, .sentinel, .listed, .data, .widerDeep, .widerDeep, .funcs, .data, .funcs, .pinned], laidTests := true, laidLooks := .later }
def StoreNilCardSaid : Prop := Claim7.holds Tryz.pinned (.plain (OpenSpec.ofChange storeNilSpec)) storeNilCard

/-- THE TIED CARD OF 'rewindlaw33.SnapshotNil'. -/
def snapshotNilCard : Claim7 := { stood := { row := snapshotNilRow, standIns := [], harness := (true, "9c3145740d3b33b342c8e0f7f3461a69abdd6bf1566168714144cf784746c4fe"), looks := true }, kinds := [], alts := [], laidByText := true, laidKinds := [.data, .data, .data, .data, .sentinel, .sentinel, .listed, .data, .widerDeep, .widerDeep, .funcs, .data, .funcs, .pinned], laidTests := true, laidLooks := .later }
def SnapshotNilCardSaid : Prop := Claim7.holds Tryz.pinned (.plain (OpenSpec.ofChange snapshotNilSpec)) snapshotNilCard

/-- THE TIED CARD OF 'rewindlaw32.ViewNil'. -/
def viewNilCard : Claim7 := { stood := { row := viewNilRow, standIns := [], harness := (true, "9c3145740d3b33b342c8e0f7f3461a69abdd6bf1566168714144cf784746c4fe"), looks := true }, kinds := [], alts := [], laidByText := true, laidKinds := [.data, .data, .data, .data, .sentinel, .sentinel, .listed, .data, .widerDeep, .widerDeep, .funcs, .data, .funcs, .data, .data, .pinned], laidTests := true, laidLooks := .later }
def ViewNilCardSaid : Prop := Claim7.holds Tryz.pinned (.plain (OpenSpec.ofChange viewNilSpec)) viewNilCard

/-- THE TIED CARD OF 'rewindlaw36.EpochNil'. -/
def epochNilCard : Claim7 := { stood := { row := epochNilRow, standIns := [], harness := (true, "9c3145740d3b33b342c8e0f7f3461a69abdd6bf1566168714144cf784746c4fe"), looks := true }, kinds := [], alts := [], laidByText := true, laidKinds := [.data, .data, .data, .data, .sentinel, .sentinel, .listed, .data, .widerDeep, .widerDeep, .funcs, .data, .funcs, .pinned], laidTests := true, laidLooks := .later }
def EpochNilCardSaid : Prop := Claim7.holds Tryz.pinned (.plain (OpenSpec.ofChange epochNilSpec)) epochNilCard

/-- THE TIED CARD OF 'rewindlaw35.ReplayNil'. -/
def replayNilCard : Claim7 := { stood := { row := replayNilRow, standIns := [], harness := (true, "9c3145740d3b33b342c8e0f7f3461a69abdd6bf1566168714144cf784746c4fe"), looks := true }, kinds := [], alts := [], laidByText := true, laidKinds := [.data, .data, .data, .data, .sentinel, .sentinel, .listed, .data, .widerDeep, .widerDeep, .funcs, .data, .funcs, .pinned], laidTests := true, laidLooks := .later }
def ReplayNilCardSaid : Prop := Claim7.holds Tryz.pinned (.plain (OpenSpec.ofChange replayNilSpec)) replayNilCard

/-- THE SECOND FORM's CARD OF 'rewindlaw34.StoreRefuses'. -/
def storeRefusesUptoCard : Claim7 := { stood := { row := storeRefusesUptoRow, standIns := [], harness := (true, "9c3145740d3b33b342c8e0f7f3461a69abdd6bf1566168714144cf784746c4fe"), looks := true }, kinds := [], alts := [], laidByText := true, laidKinds := [.data, .data, .data, .data, .sentinel, .sentinel, .listed, .data, .widerDeep, .widerDeep, .funcs, .data, .funcs, .pinned], laidTests := true, laidLooks := .later }
def StoreRefusesUptoCardSaid : Prop := Claim7.holds Tryz.pinned (.plain (OpenSpec.upto storeRefusesSpec)) storeRefusesUptoCard

/-- THE SECOND FORM's CARD OF 'rewindlaw34.StoreNil'. -/
def storeNilUptoCard : Claim7 := { stood := { row := storeNilUptoRow, standIns := [], harness := (true, "9c3145740d3b33b342c8e0f7f3461a69abdd6bf1566168714144cf784746c4fe"), looks := true }, kinds := [], alts := [], laidByText := true, laidKinds := [.data, .data, .data, .data, .sentinel, .sentinel, .listed, .data, .widerDeep, .widerDeep, .funcs, .data, .funcs, .pinned], laidTests := true, laidLooks := .later }
def StoreNilUptoCardSaid : Prop := Claim7.holds Tryz.pinned (.plain (OpenSpec.upto storeNilSpec)) storeNilUptoCard

/-- THE SECOND FORM's CARD OF 'rewindlaw33.SnapshotNil'. -/
def snapshotNilUptoCard : Claim7 := { stood := { row := snapshotNilUptoRow, standIns := [], harness := (true, "9c3145740d3b33b342c8e0f7f3461a69abdd6bf1566168714144cf784746c4fe"), looks := true }, kinds := [], alts := [], laidByText := true, laidKinds := [.data, .data, .data, .data, .sentinel, .sentinel, .listed, .data, .widerDeep, .widerDeep, .funcs, .data, .funcs, .pinned], laidTests := true, laidLooks := .later }
def SnapshotNilUptoCardSaid : Prop := Claim7.holds Tryz.pinned (.plain (OpenSpec.upto snapshotNilSpec)) snapshotNilUptoCard

/-- THE SECOND FORM's CARD OF 'rewindlaw32.ViewNil'. -/
def viewNilUptoCard : Claim7 := { stood := { row := viewNilUptoRow, standIns := [], harness := (true, "9c3145740d3b33b342c8e0f7f3461a69abdd6bf1566168714144cf784746c4fe"), looks := true }, kinds := [], alts := [], laidByText := true, laidKinds := [.data, .data, .data, .data, .sentinel, .sentinel, .listed, .data, .widerDeep, .widerDeep, .funcs, .data, .funcs, .data, .data, .pinned], laidTests := true, laidLooks := .later }
def ViewNilUptoCardSaid : Prop := Claim7.holds Tryz.pinned (.plain (OpenSpec.upto viewNilSpec)) viewNilUptoCard

/-- THE SECOND FORM's CARD OF 'rewindlaw36.EpochNil'. -/
def epochNilUptoCard : Claim7 := { stood := { row := epochNilUptoRow, standIns := [], harness := (true, "9c3145740d3b33b342c8e0f7f3461a69abdd6bf1566168714144cf784746c4fe"), looks := true }, kinds := [], alts := [], laidByText := true, laidKinds := [.data, .data, .data, .data, .sentinel, .sentinel, .listed, .data, .widerDeep, .widerDeep, .funcs, .data, .funcs, .pinned], laidTests := true, laidLooks := .later }
def EpochNilUptoCardSaid : Prop := Claim7.holds Tryz.pinned (.plain (OpenSpec.upto epochNilSpec)) epochNilUptoCard

/-- THE SECOND FORM's CARD OF 'rewindlaw35.ReplayNil'. -/
def replayNilUptoCard : Claim7 := { stood := { row := replayNilUptoRow, standIns := [], harness := (true, "9c3145740d3b33b342c8e0f7f3461a69abdd6bf1566168714144cf784746c4fe"), looks := true }, kinds := [], alts := [], laidByText := true, laidKinds := [.data, .data, .data, .data, .sentinel, .sentinel, .listed, .data, .widerDeep, .widerDeep, .funcs, .data, .funcs, .pinned], laidTests := true, laidLooks := .later }
def ReplayNilUptoCardSaid : Prop := Claim7.holds Tryz.pinned (.plain (OpenSpec.upto replayNilSpec)) replayNilUptoCard
end Rows
end Go.Proofs.YtacbdljjlcbdlaaGreatDoor
