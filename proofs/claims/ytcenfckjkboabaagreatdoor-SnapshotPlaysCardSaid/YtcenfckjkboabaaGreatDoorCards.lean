/-
  DERIVED. GIVEN WITH THE SEED: THE CARDS: each row of YtcenfckjkboabaaGreatDoorRows.lean that lists a variable, with what it lists TIED to the program's text (the seventh form; the later family's looks); each row that meets fmt, with fmt's text TOLD by the authors' own Lean function (tested against real Go, not proved from fmt's source: count such statements apart). THE CARD IS WHAT COUNTS. Prove the row's statement (the work); the ties are given (YtcenfckjkboabaaGreatDoorTie.lean); close each card by the builder's one call (the guide's Derived/Test/ToyasCard.lean, 'card_holds'). Laid BY PROGRAM, IN A SANDBOX (cutbox-door.mjs). By AI agents, Wed Nov 11 2026. No macro, syntax, notation, axiom, sorry.
-/
import Derived.Test.YtcenfckjkboabaaGreatDoorRows
import GoSem.ClaimSeven
namespace Go.Proofs.YtcenfckjkboabaaGreatDoor
namespace Rows

/-- THE TIED CARD OF 'emendlaw08.DocsPlays'. -/
def docsPlaysCard : Claim7 := { stood := { row := docsPlaysRow, standIns := [], harness := (true, "64d7fae431fcbd76edf68b543190495d699ac82794cc59a368c7829075783a59"), looks := true }, kinds := [], alts := [], laidByText := true, laidKinds := [.data, .listed, .data, .pinned], laidTests := true, laidLooks := .later }
def DocsPlaysCardSaid : Prop := Claim7.holds Tryz.pinned (.plain (OpenSpec.ofChange docsPlaysSpec)) docsPlaysCard

/-- THE TIED CARD OF 'emendlaw08.DocsCopies'. -/
def docsCopiesCard : Claim7 := { stood := { row := docsCopiesRow, standIns := [], harness := (true, "64d7fae431fcbd76edf68b543190495d699ac82794cc59a368c7829075783a59"), looks := true }, kinds := [], alts := [], laidByText := true, laidKinds := [.data, .listed, .data, .pinned], laidTests := true, laidLooks := .later }
def DocsCopiesCardSaid : Prop := Claim7.holds Tryz.pinned (.plain (OpenSpec.ofChange docsCopiesSpec)) docsCopiesCard

/-- THE TIED CARD OF 'emendlaw28.SnapshotCame'. -/
def snapshotCameCard : Claim7 := { stood := { row := snapshotCameRow, standIns := [], harness := (true, "64d7fae431fcbd76edf68b543190495d699ac82794cc59a368c7829075783a59"), looks := true }, kinds := [], alts := [], laidByText := true, laidKinds := [.data, .listed, .data, .pinned], laidTests := true, laidLooks := .later }
def SnapshotCameCardSaid : Prop := Claim7.holds Tryz.pinned (.plain (OpenSpec.ofChange snapshotCameSpec)) snapshotCameCard

/-- THE TIED CARD OF 'emendlaw28.SnapshotPlays'. -/
def snapshotPlaysCard : Claim7 := { stood := { row := snapshotPlaysRow, standIns := [], harness := (true, "64d7fae431fcbd76edf68b543190495d699ac82794cc59a368c7829075783a59"), looks := true }, kinds := [], alts := [], laidByText := true, laidKinds := [.data, .listed, .data, .pinned], laidTests := true, laidLooks := .later }
def SnapshotPlaysCardSaid : Prop := Claim7.holds Tryz.pinned (.plain (OpenSpec.ofChange snapshotPlaysSpec)) snapshotPlaysCard

/-- THE TIED CARD OF 'emendlaw28.SnapshotStays'. -/
def snapshotStaysCard : Claim7 := { stood := { row := snapshotStaysRow, standIns := [], harness := (true, "64d7fae431fcbd76edf68b543190495d699ac82794cc59a368c7829075783a59"), looks := true }, kinds := [], alts := [], laidByText := true, laidKinds := [.data, .listed, .data, .pinned], laidTests := true, laidLooks := .later }
def SnapshotStaysCardSaid : Prop := Claim7.holds Tryz.pinned (.plain (OpenSpec.ofChange snapshotStaysSpec)) snapshotStaysCard

/-- THE TIED CARD OF 'emendlaw28.SnapshotKnown'. -/
def snapshotKnownCard : Claim7 := { stood := { row := snapshotKnownRow, standIns := [], harness := (true, "64d7fae431fcbd76edf68b543190495d699ac82794cc59a368c7829075783a59"), looks := true }, kinds := [], alts := [], laidByText := true, laidKinds := [.data, .listed, .data, .pinned], laidTests := true, laidLooks := .later }
def SnapshotKnownCardSaid : Prop := Claim7.holds Tryz.pinned (.plain (OpenSpec.ofChange snapshotKnownSpec)) snapshotKnownCard

/-- THE SECOND FORM's CARD OF 'emendlaw08.DocsPlays'. -/
def docsPlaysUptoCard : Claim7 := { stood := { row := docsPlaysUptoRow, standIns := [], harness := (true, "64d7fae431fcbd76edf68b543190495d699ac82794cc59a368c7829075783a59"), looks := true }, kinds := [], alts := [], laidByText := true, laidKinds := [.data, .listed, .data, .pinned], laidTests := true, laidLooks := .later }
def DocsPlaysUptoCardSaid : Prop := Claim7.holds Tryz.pinned (.plain (OpenSpec.upto docsPlaysSpec)) docsPlaysUptoCard

/-- THE SECOND FORM's CARD OF 'emendlaw08.DocsCopies'. -/
def docsCopiesUptoCard : Claim7 := { stood := { row := docsCopiesUptoRow, standIns := [], harness := (true, "64d7fae431fcbd76edf68b543190495d699ac82794cc59a368c7829075783a59"), looks := true }, kinds := [], alts := [], laidByText := true, laidKinds := [.data, .listed, .data, .pinned], laidTests := true, laidLooks := .later }
def DocsCopiesUptoCardSaid : Prop := Claim7.holds Tryz.pinned (.plain (OpenSpec.upto docsCopiesSpec)) docsCopiesUptoCard

/-- THE SECOND FORM's CARD OF 'emendlaw28.SnapshotCame'. -/
def snapshotCameUptoCard : Claim7 := { stood := { row := snapshotCameUptoRow, standIns := [], harness := (true, "64d7fae431fcbd76edf68b543190495d699ac82794cc59a368c7829075783a59"), looks := true }, kinds := [], alts := [], laidByText := true, laidKinds := [.data, .listed, .data, .pinned], laidTests := true, laidLooks := .later }
def SnapshotCameUptoCardSaid : Prop := Claim7.holds Tryz.pinned (.plain (OpenSpec.upto snapshotCameSpec)) snapshotCameUptoCard

/-- THE SECOND FORM's CARD OF 'emendlaw28.SnapshotPlays'. -/
def snapshotPlaysUptoCard : Claim7 := { stood := { row := snapshotPlaysUptoRow, standIns := [], harness := (true, "64d7fae431fcbd76edf68b543190495d699ac82794cc59a368c7829075783a59"), looks := true }, kinds := [], alts := [], laidByText := true, laidKinds := [.data, .listed, .data, .pinned], laidTests := true, laidLooks := .later }
def SnapshotPlaysUptoCardSaid : Prop := Claim7.holds Tryz.pinned (.plain (OpenSpec.upto snapshotPlaysSpec)) snapshotPlaysUptoCard

/-- THE SECOND FORM's CARD OF 'emendlaw28.SnapshotStays'. -/
def snapshotStaysUptoCard : Claim7 := { stood := { row := snapshotStaysUptoRow, standIns := [], harness := (true, "64d7fae431fcbd76edf68b543190495d699ac82794cc59a368c7829075783a59"), looks := true }, kinds := [], alts := [], laidByText := true, laidKinds := [.data, .listed, .data, .pinned], laidTests := true, laidLooks := .later }
def SnapshotStaysUptoCardSaid : Prop := Claim7.holds Tryz.pinned (.plain (OpenSpec.upto snapshotStaysSpec)) snapshotStaysUptoCard

/-- THE SECOND FORM's CARD OF 'emendlaw28.SnapshotKnown'. -/
def snapshotKnownUptoCard : Claim7 := { stood := { row := snapshotKnownUptoRow, standIns := [], harness := (true, "64d7fae431fcbd76edf68b543190495d699ac82794cc59a368c7829075783a59"), looks := true }, kinds := [], alts := [], laidByText := true, laidKinds := [.data, .listed, .data, .pinned], laidTests := true, laidLooks := .later }
def SnapshotKnownUptoCardSaid : Prop := Claim7.holds Tryz.pinned (.plain (OpenSpec.upto snapshotKnownSpec)) snapshotKnownUptoCard
end Rows
end Go.Proofs.YtcenfckjkboabaaGreatDoor
