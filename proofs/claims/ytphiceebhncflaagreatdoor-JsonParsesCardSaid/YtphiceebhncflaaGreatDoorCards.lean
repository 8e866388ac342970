/-
  DERIVED. GIVEN WITH THE SEED: THE CARDS: each row of YtphiceebhncflaaGreatDoorRows.lean that lists a variable, with what it lists TIED to the program's text (the seventh form; the later family's looks); each row that meets fmt, with fmt's text TOLD by the authors' own Lean function (tested against real Go, not proved from fmt's source: count such statements apart). THE CARD IS WHAT COUNTS. Prove the row's statement (the work); the ties are given (YtphiceebhncflaaGreatDoorTie.lean); close each card by the builder's one call (the guide's Derived/Test/ToyasCard.lean, 'card_holds'). Laid BY PROGRAM, IN A SANDBOX (cutbox-door.mjs). By AI agents, Wed Nov 11 2026. No macro, syntax, notation, axiom, sorry.
-/
import Derived.Test.YtphiceebhncflaaGreatDoorRows
import GoSem.ClaimSeven
namespace Go.Proofs.YtphiceebhncflaaGreatDoor
namespace Rows

/-- THE TIED CARD OF 'emendlaw04.JsonPuts'. -/
def jsonPutsCard : Claim7 := { stood := { row := jsonPutsRow, standIns := [], harness := (true, "07232669313f93c6b92fe47b014b1641baced96976779aa96b10e9358b5d8d82"), looks := true }, kinds := [], alts := [], laidByText := true, laidKinds := [.data, .pinned, .pinned], laidTests := true, laidLooks := .later }
def JsonPutsCardSaid : Prop := Claim7.holds Tryz.pinned (.plain (OpenSpec.ofChange jsonPutsSpec)) jsonPutsCard

/-- THE TIED CARD OF 'emendlaw04.JsonParses'. -/
def jsonParsesCard : Claim7 := { stood := { row := jsonParsesRow, standIns := [], harness := (true, "07232669313f93c6b92fe47b014b1641baced96976779aa96b10e9358b5d8d82"), looks := true }, kinds := [], alts := [], laidByText := true, laidKinds := [.data, .pinned, .pinned], laidTests := true, laidLooks := .later }
def JsonParsesCardSaid : Prop := Claim7.holds Tryz.pinned (.plain (OpenSpec.ofChange jsonParsesSpec)) jsonParsesCard

/-- THE TIED CARD OF 'emendlaw04.JsonLooks'. -/
def jsonLooksCard : Claim7 := { stood := { row := jsonLooksRow, standIns := [], harness := (true, "07232669313f93c6b92fe47b014b1641baced96976779aa96b10e9358b5d8d82"), looks := true }, kinds := [], alts := [], laidByText := true, laidKinds := [.data, .data, .data, .data, .sentinel, .sentinel, .pinned, .pinned], laidTests := true, laidLooks := .later }
def JsonLooksCardSaid : Prop := Claim7.holds Tryz.pinned (.plain (OpenSpec.ofChange jsonLooksSpec)) jsonLooksCard

/-- THE TIED CARD OF 'emendlaw04.JsonKnown'. -/
def jsonKnownCard : Claim7 := { stood := { row := jsonKnownRow, standIns := [], harness := (true, "07232669313f93c6b92fe47b014b1641baced96976779aa96b10e9358b5d8d82"), looks := true }, kinds := [], alts := [], laidByText := true, laidKinds := [.data, .data, .data, .data, .sentinel, .sentinel, .pinned, .pinned], laidTests := true, laidLooks := .later }
def JsonKnownCardSaid : Prop := Claim7.holds Tryz.pinned (.plain (OpenSpec.ofChange jsonKnownSpec)) jsonKnownCard

/-- THE SECOND FORM's CARD OF 'emendlaw04.JsonPuts'. -/
def jsonPutsUptoCard : Claim7 := { stood := { row := jsonPutsUptoRow, standIns := [], harness := (true, "07232669313f93c6b92fe47b014b1641baced96976779aa96b10e9358b5d8d82"), looks := true }, kinds := [], alts := [], laidByText := true, laidKinds := [.data, .pinned, .pinned], laidTests := true, laidLooks := .later }
def JsonPutsUptoCardSaid : Prop := Claim7.holds Tryz.pinned (.plain (OpenSpec.upto jsonPutsSpec)) jsonPutsUptoCard

/-- THE SECOND FORM's CARD OF 'emendlaw04.JsonParses'. -/
def jsonParsesUptoCard : Claim7 := { stood := { row := jsonParsesUptoRow, standIns := [], harness := (true, "07232669313f93c6b92fe47b014b1641baced96976779aa96b10e9358b5d8d82"), looks := true }, kinds := [], alts := [], laidByText := true, laidKinds := [.data, .pinned, .pinned], laidTests := true, laidLooks := .later }
def JsonParsesUptoCardSaid : Prop := Claim7.holds Tryz.pinned (.plain (OpenSpec.upto jsonParsesSpec)) jsonParsesUptoCard

/-- THE SECOND FORM's CARD OF 'emendlaw04.JsonLooks'. -/
def jsonLooksUptoCard : Claim7 := { stood := { row := jsonLooksUptoRow, standIns := [], harness := (true, "07232669313f93c6b92fe47b014b1641baced96976779aa96b10e9358b5d8d82"), looks := true }, kinds := [], alts := [], laidByText := true, laidKinds := [.data, .data, .data, .data, .sentinel, .sentinel, .pinned, .pinned], laidTests := true, laidLooks := .later }
def JsonLooksUptoCardSaid : Prop := Claim7.holds Tryz.pinned (.plain (OpenSpec.upto jsonLooksSpec)) jsonLooksUptoCard

/-- THE SECOND FORM's CARD OF 'emendlaw04.JsonKnown'. -/
def jsonKnownUptoCard : Claim7 := { stood := { row := jsonKnownUptoRow, standIns := [], harness := (true, "07232669313f93c6b92fe47b014b1641baced96976779aa96b10e9358b5d8d82"), looks := true }, kinds := [], alts := [], laidByText := true, laidKinds := [.data, .data, .data, .data, .sentinel, .sentinel, .pinned, .pinned], laidTests := true, laidLooks := .later }
def JsonKnownUptoCardSaid : Prop := Claim7.holds Tryz.pinned (.plain (OpenSpec.upto jsonKnownSpec)) jsonKnownUptoCard
end Rows
end Go.Proofs.YtphiceebhncflaaGreatDoor
