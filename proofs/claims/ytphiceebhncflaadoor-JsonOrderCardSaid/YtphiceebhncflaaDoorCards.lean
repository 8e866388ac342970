/-
  DERIVED. GIVEN WITH THE SEED: THE CARDS: each row of YtphiceebhncflaaDoorRows.lean that lists a variable, with what it lists TIED to the program's text (the seventh form; the later family's looks); each row that meets fmt, with fmt's text TOLD by the authors' own Lean function (tested against real Go, not proved from fmt's source: count such statements apart). THE CARD IS WHAT COUNTS. Prove the row's statement (the work); the ties are given (YtphiceebhncflaaDoorTie.lean); close each card by the builder's one call (the guide's Derived/Test/ToyasCard.lean, 'card_holds'). Laid BY PROGRAM, IN A SANDBOX (cutbox-door.mjs). By AI agents, Wed Nov 11 2026. No macro, syntax, notation, axiom, sorry.
-/
import Derived.Test.YtphiceebhncflaaDoorRows
import GoSem.ClaimSeven
namespace Go.Proofs.YtphiceebhncflaaDoor
namespace Rows

/-- THE TIED CARD OF 'emendlaw03.JtextTokens'. -/
def jtextTokensCard : Claim7 := { stood := { row := jtextTokensRow, standIns := [], harness := (true, "8f1c0abff40b8c65c7aff264cb7d01bf1317dfe6c78777e9c1fe4a58fdfc9949"), looks := false }, kinds := [], alts := [], laidByText := true, laidKinds := [.data, .pinned, .pinned], laidTests := true, laidLooks := .later }
def JtextTokensCardSaid : Prop := Claim7.holds Tryd.pinned (.plain (OpenSpec.ofChange jtextTokensSpec)) jtextTokensCard

/-- THE TIED CARD OF 'emendlaw03.JtextTiles'. -/
def jtextTilesCard : Claim7 := { stood := { row := jtextTilesRow, standIns := [], harness := (true, "8f1c0abff40b8c65c7aff264cb7d01bf1317dfe6c78777e9c1fe4a58fdfc9949"), looks := false }, kinds := [], alts := [], laidByText := true, laidKinds := [.data, .pinned, .pinned], laidTests := true, laidLooks := .later }
def JtextTilesCardSaid : Prop := Claim7.holds Tryd.pinned (.plain (OpenSpec.ofChange jtextTilesSpec)) jtextTilesCard

/-- THE TIED CARD OF 'emendlaw03.JtextLoose'. -/
def jtextLooseCard : Claim7 := { stood := { row := jtextLooseRow, standIns := [], harness := (true, "8f1c0abff40b8c65c7aff264cb7d01bf1317dfe6c78777e9c1fe4a58fdfc9949"), looks := false }, kinds := [], alts := [], laidByText := true, laidKinds := [.data, .pinned, .pinned], laidTests := true, laidLooks := .later }
def JtextLooseCardSaid : Prop := Claim7.holds Tryd.pinned (.plain (OpenSpec.ofChange jtextLooseSpec)) jtextLooseCard

/-- THE TIED CARD OF 'emendlaw03.JtextQuotes'. -/
def jtextQuotesCard : Claim7 := { stood := { row := jtextQuotesRow, standIns := [], harness := (true, "8f1c0abff40b8c65c7aff264cb7d01bf1317dfe6c78777e9c1fe4a58fdfc9949"), looks := false }, kinds := [], alts := [], laidByText := true, laidKinds := [.data, .pinned, .pinned], laidTests := true, laidLooks := .later }
def JtextQuotesCardSaid : Prop := Claim7.holds Tryd.pinned (.plain (OpenSpec.ofChange jtextQuotesSpec)) jtextQuotesCard

/-- THE TIED CARD OF 'emendlaw03.JtextKnown'. -/
def jtextKnownCard : Claim7 := { stood := { row := jtextKnownRow, standIns := [], harness := (true, "8f1c0abff40b8c65c7aff264cb7d01bf1317dfe6c78777e9c1fe4a58fdfc9949"), looks := false }, kinds := [], alts := [], laidByText := true, laidKinds := [.data, .pinned, .pinned], laidTests := true, laidLooks := .later }
def JtextKnownCardSaid : Prop := Claim7.holds Tryd.pinned (.plain (OpenSpec.ofChange jtextKnownSpec)) jtextKnownCard

/-- THE TIED CARD OF 'emendlaw03.JtextBack'. -/
def jtextBackCard : Claim7 := { stood := { row := jtextBackRow, standIns := [], harness := (true, "8f1c0abff40b8c65c7aff264cb7d01bf1317dfe6c78777e9c1fe4a58fdfc9949"), looks := false }, kinds := [], alts := [], laidByText := true, laidKinds := [.data, .pinned, .pinned], laidTests := true, laidLooks := .later }
def JtextBackCardSaid : Prop := Claim7.holds Tryd.pinned (.plain (OpenSpec.ofChange jtextBackSpec)) jtextBackCard

/-- THE TIED CARD OF 'emendlaw04.JsonSays'. -/
def jsonSaysCard : Claim7 := { stood := { row := jsonSaysRow, standIns := [], harness := (true, "8f1c0abff40b8c65c7aff264cb7d01bf1317dfe6c78777e9c1fe4a58fdfc9949"), looks := false }, kinds := [], alts := [], laidByText := true, laidKinds := [.data, .pinned, .pinned], laidTests := true, laidLooks := .later }
def JsonSaysCardSaid : Prop := Claim7.holds Tryd.pinned (.plain (OpenSpec.ofChange jsonSaysSpec)) jsonSaysCard

/-- THE TIED CARD OF 'emendlaw04.JsonBlanks'. -/
def jsonBlanksCard : Claim7 := { stood := { row := jsonBlanksRow, standIns := [], harness := (true, "8f1c0abff40b8c65c7aff264cb7d01bf1317dfe6c78777e9c1fe4a58fdfc9949"), looks := false }, kinds := [], alts := [], laidByText := true, laidKinds := [.data, .pinned, .pinned], laidTests := true, laidLooks := .later }
def JsonBlanksCardSaid : Prop := Claim7.holds Tryd.pinned (.plain (OpenSpec.ofChange jsonBlanksSpec)) jsonBlanksCard

/-- THE TIED CARD OF 'emendlaw04.JsonBack'. -/
def jsonBackCard : Claim7 := { stood := { row := jsonBackRow, standIns := [], harness := (true, "8f1c0abff40b8c65c7aff264cb7d01bf1317dfe6c78777e9c1fe4a58fdfc9949"), looks := false }, kinds := [], alts := [], laidByText := true, laidKinds := [.data, .pinned, .pinned], laidTests := true, laidLooks := .later }
def JsonBackCardSaid : Prop := Claim7.holds Tryd.pinned (.plain (OpenSpec.ofChange jsonBackSpec)) jsonBackCard

/-- THE TIED CARD OF 'emendlaw04.JsonOrder'. -/
def jsonOrderCard : Claim7 := { stood := { row := jsonOrderRow, standIns := [], harness := (true, "8f1c0abff40b8c65c7aff264cb7d01bf1317dfe6c78777e9c1fe4a58fdfc9949"), looks := false }, kinds := [], alts := [], laidByText := true, laidKinds := [.data, .pinned, .pinned], laidTests := true, laidLooks := .later }
def JsonOrderCardSaid : Prop := Claim7.holds Tryd.pinned (.plain (OpenSpec.ofChange jsonOrderSpec)) jsonOrderCard

/-- THE SECOND FORM's CARD OF 'emendlaw03.JtextTokens'. -/
def jtextTokensUptoCard : Claim7 := { stood := { row := jtextTokensUptoRow, standIns := [], harness := (true, "8f1c0abff40b8c65c7aff264cb7d01bf1317dfe6c78777e9c1fe4a58fdfc9949"), looks := false }, kinds := [], alts := [], laidByText := true, laidKinds := [.data, .pinned, .pinned], laidTests := true, laidLooks := .later }
def JtextTokensUptoCardSaid : Prop := Claim7.holds Tryd.pinned (.plain (OpenSpec.upto jtextTokensSpec)) jtextTokensUptoCard

/-- THE SECOND FORM's CARD OF 'emendlaw03.JtextTiles'. -/
def jtextTilesUptoCard : Claim7 := { stood := { row := jtextTilesUptoRow, standIns := [], harness := (true, "8f1c0abff40b8c65c7aff264cb7d01bf1317dfe6c78777e9c1fe4a58fdfc9949"), looks := false }, kinds := [], alts := [], laidByText := true, laidKinds := [.data, .pinned, .pinned], laidTests := true, laidLooks := .later }
def JtextTilesUptoCardSaid : Prop := Claim7.holds Tryd.pinned (.plain (OpenSpec.upto jtextTilesSpec)) jtextTilesUptoCard

/-- THE SECOND FORM's CARD OF 'emendlaw03.JtextLoose'. -/
def jtextLooseUptoCard : Claim7 := { stood := { row := jtextLooseUptoRow, standIns := [], harness := (true, "8f1c0abff40b8c65c7aff264cb7d01bf1317dfe6c78777e9c1fe4a58fdfc9949"), looks := false }, kinds := [], alts := [], laidByText := true, laidKinds := [.data, .pinned, .pinned], laidTests := true, laidLooks := .later }
def JtextLooseUptoCardSaid : Prop := Claim7.holds Tryd.pinned (.plain (OpenSpec.upto jtextLooseSpec)) jtextLooseUptoCard

/-- THE SECOND FORM's CARD OF 'emendlaw03.JtextQuotes'. -/
def jtextQuotesUptoCard : Claim7 := { stood := { row := jtextQuotesUptoRow, standIns := [], harness := (true, "8f1c0abff40b8c65c7aff264cb7d01bf1317dfe6c78777e9c1fe4a58fdfc9949"), looks := false }, kinds := [], alts := [], laidByText := true, laidKinds := [.data, .pinned, .pinned], laidTests := true, laidLooks := .later }
def JtextQuotesUptoCardSaid : Prop := Claim7.holds Tryd.pinned (.plain (OpenSpec.upto jtextQuotesSpec)) jtextQuotesUptoCard

/-- THE SECOND FORM's CARD OF 'emendlaw03.JtextKnown'. -/
def jtextKnownUptoCard : Claim7 := { stood := { row := jtextKnownUptoRow, standIns := [], harness := (true, "8f1c0abff40b8c65c7aff264cb7d01bf1317dfe6c78777e9c1fe4a58fdfc9949"), looks := false }, kinds := [], alts := [], laidByText := true, laidKinds := [.data, .pinned, .pinned], laidTests := true, laidLooks := .later }
def JtextKnownUptoCardSaid : Prop := Claim7.holds Tryd.pinned (.plain (OpenSpec.upto jtextKnownSpec)) jtextKnownUptoCard

/-- THE SECOND FORM's CARD OF 'emendlaw03.JtextBack'. -/
def jtextBackUptoCard : Claim7 := { stood := { row := jtextBackUptoRow, standIns := [], harness := (true, "8f1c0abff40b8c65c7aff264cb7d01bf1317dfe6c78777e9c1fe4a58fdfc9949"), looks := false }, kinds := [], alts := [], laidByText := true, laidKinds := [.data, .pinned, .pinned], laidTests := true, laidLooks := .later }
def JtextBackUptoCardSaid : Prop := Claim7.holds Tryd.pinned (.plain (OpenSpec.upto jtextBackSpec)) jtextBackUptoCard

/-- THE SECOND FORM's CARD OF 'emendlaw04.JsonSays'. -/
def jsonSaysUptoCard : Claim7 := { stood := { row := jsonSaysUptoRow, standIns := [], harness := (true, "8f1c0abff40b8c65c7aff264cb7d01bf1317dfe6c78777e9c1fe4a58fdfc9949"), looks := false }, kinds := [], alts := [], laidByText := true, laidKinds := [.data, .pinned, .pinned], laidTests := true, laidLooks := .later }
def JsonSaysUptoCardSaid : Prop := Claim7.holds Tryd.pinned (.plain (OpenSpec.upto jsonSaysSpec)) jsonSaysUptoCard

/-- THE SECOND FORM's CARD OF 'emendlaw04.JsonBlanks'. -/
def jsonBlanksUptoCard : Claim7 := { stood := { row := jsonBlanksUptoRow, standIns := [], harness := (true, "8f1c0abff40b8c65c7aff264cb7d01bf1317dfe6c78777e9c1fe4a58fdfc9949"), looks := false }, kinds := [], alts := [], laidByText := true, laidKinds := [.data, .pinned, .pinned], laidTests := true, laidLooks := .later }
def JsonBlanksUptoCardSaid : Prop := Claim7.holds Tryd.pinned (.plain (OpenSpec.upto jsonBlanksSpec)) jsonBlanksUptoCard

/-- THE SECOND FORM's CARD OF 'emendlaw04.JsonBack'. -/
def jsonBackUptoCard : Claim7 := { stood := { row := jsonBackUptoRow, standIns := [], harness := (true, "8f1c0abff40b8c65c7aff264cb7d01bf1317dfe6c78777e9c1fe4a58fdfc9949"), looks := false }, kinds := [], alts := [], laidByText := true, laidKinds := [.data, .pinned, .pinned], laidTests := true, laidLooks := .later }
def JsonBackUptoCardSaid : Prop := Claim7.holds Tryd.pinned (.plain (OpenSpec.upto jsonBackSpec)) jsonBackUptoCard

/-- THE SECOND FORM's CARD OF 'emendlaw04.JsonOrder'. -/
def jsonOrderUptoCard : Claim7 := { stood := { row := jsonOrderUptoRow, standIns := [], harness := (true, "8f1c0abff40b8c65c7aff264cb7d01bf1317dfe6c78777e9c1fe4a58fdfc9949"), looks := false }, kinds := [], alts := [], laidByText := true, laidKinds := [.data, .pinned, .pinned], laidTests := true, laidLooks := .later }
def JsonOrderUptoCardSaid : Prop := Claim7.holds Tryd.pinned (.plain (OpenSpec.upto jsonOrderSpec)) jsonOrderUptoCard
end Rows
end Go.Proofs.YtphiceebhncflaaDoor
