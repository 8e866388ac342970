/-
  DERIVED. GIVEN WITH THE SEED: THE CARDS: each row of YtcenfckjkboabaaDoorRows.lean that lists a variable, with what it lists TIED to the program's text (the seventh form; the later family's looks); each row that meets fmt, with fmt's text TOLD by the authors' own Lean function (tested against real Go, not proved from fmt's source: count such statements apart). THE CARD IS WHAT COUNTS. Prove the row's statement (the work); the ties are given (YtcenfckjkboabaaDoorTie.lean); close each card by the builder's one call (the guide's Derived/Test/ToyasCard.lean, 'card_holds'). Laid BY PROGRAM, IN A SANDBOX (cutbox-door.mjs). By AI agents, Wed Nov 11 2026. No macro, syntax, notation, axiom, sorry.
-/
import Derived.Test.YtcenfckjkboabaaDoorRows
import GoSem.ClaimSeven
namespace Go.Proofs.YtcenfckjkboabaaDoor
namespace Rows

/-- THE TIED CARD OF 'emendlaw08.DocsNames'. -/
def docsNamesCard : Claim7 := { stood := { row := docsNamesRow, standIns := [], harness := (true, "f5208bbb141e20b0396fc0d9bad59464a9e2f3370b43a20475de3b1ef895112a"), looks := true }, kinds := [], alts := [], laidByText := true, laidKinds := [.data, .listed, .data, .pinned], laidTests := true, laidLooks := .later }
def DocsNamesCardSaid : Prop := Claim7.holds Tryd.pinned (.plain (OpenSpec.ofChange docsNamesSpec)) docsNamesCard

/-- THE TIED CARD OF 'emendlaw08.DocsFold'. -/
def docsFoldCard : Claim7 := { stood := { row := docsFoldRow, standIns := [], harness := (true, "f5208bbb141e20b0396fc0d9bad59464a9e2f3370b43a20475de3b1ef895112a"), looks := true }, kinds := [], alts := [], laidByText := true, laidKinds := [.data, .listed, .data, .pinned], laidTests := true, laidLooks := .later }
def DocsFoldCardSaid : Prop := Claim7.holds Tryd.pinned (.plain (OpenSpec.ofChange docsFoldSpec)) docsFoldCard

/-- THE TIED CARD OF 'emendlaw08.DocsHold'. -/
def docsHoldCard : Claim7 := { stood := { row := docsHoldRow, standIns := [], harness := (true, "f5208bbb141e20b0396fc0d9bad59464a9e2f3370b43a20475de3b1ef895112a"), looks := true }, kinds := [], alts := [], laidByText := true, laidKinds := [.data, .listed, .data, .pinned], laidTests := true, laidLooks := .later }
def DocsHoldCardSaid : Prop := Claim7.holds Tryd.pinned (.plain (OpenSpec.ofChange docsHoldSpec)) docsHoldCard

/-- THE TIED CARD OF 'emendlaw08.DocsKnown'. -/
def docsKnownCard : Claim7 := { stood := { row := docsKnownRow, standIns := [], harness := (true, "f5208bbb141e20b0396fc0d9bad59464a9e2f3370b43a20475de3b1ef895112a"), looks := true }, kinds := [], alts := [], laidByText := true, laidKinds := [.data, .listed, .data, .pinned], laidTests := true, laidLooks := .later }
def DocsKnownCardSaid : Prop := Claim7.holds Tryd.pinned (.plain (OpenSpec.ofChange docsKnownSpec)) docsKnownCard

/-- THE SECOND FORM's CARD OF 'emendlaw08.DocsNames'. -/
def docsNamesUptoCard : Claim7 := { stood := { row := docsNamesUptoRow, standIns := [], harness := (true, "f5208bbb141e20b0396fc0d9bad59464a9e2f3370b43a20475de3b1ef895112a"), looks := true }, kinds := [], alts := [], laidByText := true, laidKinds := [.data, .listed, .data, .pinned], laidTests := true, laidLooks := .later }
def DocsNamesUptoCardSaid : Prop := Claim7.holds Tryd.pinned (.plain (OpenSpec.upto docsNamesSpec)) docsNamesUptoCard

/-- THE SECOND FORM's CARD OF 'emendlaw08.DocsFold'. -/
def docsFoldUptoCard : Claim7 := { stood := { row := docsFoldUptoRow, standIns := [], harness := (true, "f5208bbb141e20b0396fc0d9bad59464a9e2f3370b43a20475de3b1ef895112a"), looks := true }, kinds := [], alts := [], laidByText := true, laidKinds := [.data, .listed, .data, .pinned], laidTests := true, laidLooks := .later }
def DocsFoldUptoCardSaid : Prop := Claim7.holds Tryd.pinned (.plain (OpenSpec.upto docsFoldSpec)) docsFoldUptoCard

/-- THE SECOND FORM's CARD OF 'emendlaw08.DocsHold'. -/
def docsHoldUptoCard : Claim7 := { stood := { row := docsHoldUptoRow, standIns := [], harness := (true, "f5208bbb141e20b0396fc0d9bad59464a9e2f3370b43a20475de3b1ef895112a"), looks := true }, kinds := [], alts := [], laidByText := true, laidKinds := [.data, .listed, .data, .pinned], laidTests := true, laidLooks := .later }
def DocsHoldUptoCardSaid : Prop := Claim7.holds Tryd.pinned (.plain (OpenSpec.upto docsHoldSpec)) docsHoldUptoCard

/-- THE SECOND FORM's CARD OF 'emendlaw08.DocsKnown'. -/
def docsKnownUptoCard : Claim7 := { stood := { row := docsKnownUptoRow, standIns := [], harness := (true, "f5208bbb141e20b0396fc0d9bad59464a9e2f3370b43a20475de3b1ef895112a"), looks := true }, kinds := [], alts := [], laidByText := true, laidKinds := [.data, .listed, .data, .pinned], laidTests := true, laidLooks := .later }
def DocsKnownUptoCardSaid : Prop := Claim7.holds Tryd.pinned (.plain (OpenSpec.upto docsKnownSpec)) docsKnownUptoCard
end Rows
end Go.Proofs.YtcenfckjkboabaaDoor
