/-
  DERIVED. GIVEN WITH THE SEED: THE CARDS: each row of YtaiaiiepbpbmmaaGreatDoorRows.lean that lists a variable, with what it lists TIED to the program's text (the seventh form; the later family's looks); each row that meets fmt, with fmt's text TOLD by the authors' own Lean function (tested against real Go, not proved from fmt's source: count such statements apart). THE CARD IS WHAT COUNTS. Prove the row's statement (the work); the ties are given (YtaiaiiepbpbmmaaGreatDoorTie.lean); close each card by the builder's one call (the guide's Derived/Test/ToyasCard.lean, 'card_holds'). Laid BY PROGRAM, IN A SANDBOX (cutbox-door.mjs). By AI agents, Wed Nov 11 2026. No macro, syntax, notation, axiom, sorry.
-/
import Derived.Test.YtaiaiiepbpbmmaaGreatDoorRows
import GoSem.ClaimSeven
namespace Go.Proofs.YtaiaiiepbpbmmaaGreatDoor
namespace Rows

/-- THE TIED CARD OF 'emendlaw25.LspReads'. -/
def lspReadsCard : Claim7 := { stood := { row := lspReadsRow, standIns := [], harness := (true, "e054760908000ad83c5fdba919facb49593b4cb6c672446b1758551667a1631c"), looks := true }, kinds := [], alts := [], laidByText := true, laidKinds := [.data, .data, .data, .data, .sentinel, .sentinel, .pinned, .pinned], laidTests := true, laidLooks := .later }
def LspReadsCardSaid : Prop := Claim7.holds Tryz.pinned (.plain (OpenSpec.ofChange lspReadsSpec)) lspReadsCard

/-- THE TIED CARD OF 'emendlaw04.JsonLooks'. -/
def jsonLooksCard : Claim7 := { stood := { row := jsonLooksRow, standIns := [], harness := (true, "e054760908000ad83c5fdba919facb49593b4cb6c672446b1758551667a1631c"), looks := true }, kinds := [], alts := [], laidByText := true, laidKinds := [.data, .data, .data, .data, .sentinel, .sentinel, .pinned, .pinned], laidTests := true, laidLooks := .later }
def JsonLooksCardSaid : Prop := Claim7.holds Tryz.pinned (.plain (OpenSpec.ofChange jsonLooksSpec)) jsonLooksCard

/-- THE TIED CARD OF 'emendlaw24.RpcReads'. -/
def rpcReadsCard : Claim7 := { stood := { row := rpcReadsRow, standIns := [], harness := (true, "e054760908000ad83c5fdba919facb49593b4cb6c672446b1758551667a1631c"), looks := true }, kinds := [], alts := [], laidByText := true, laidKinds := [.data, .data, .data, .data, .sentinel, .sentinel, .pinned, .pinned], laidTests := true, laidLooks := .later }
def RpcReadsCardSaid : Prop := Claim7.holds Tryz.pinned (.plain (OpenSpec.ofChange rpcReadsSpec)) rpcReadsCard

/-- THE TIED CARD OF 'emendlaw24.RpcPuts'. -/
def rpcPutsCard : Claim7 := { stood := { row := rpcPutsRow, standIns := [], harness := (true, "e054760908000ad83c5fdba919facb49593b4cb6c672446b1758551667a1631c"), looks := true }, kinds := [], alts := [], laidByText := true, laidKinds := [.data, .data, .data, .data, .sentinel, .sentinel, .pinned, .pinned], laidTests := true, laidLooks := .later }
def RpcPutsCardSaid : Prop := Claim7.holds Tryz.pinned (.plain (OpenSpec.ofChange rpcPutsSpec)) rpcPutsCard

/-- THE TIED CARD OF 'emendlaw24.RpcBack'. -/
def rpcBackCard : Claim7 := { stood := { row := rpcBackRow, standIns := [], harness := (true, "e054760908000ad83c5fdba919facb49593b4cb6c672446b1758551667a1631c"), looks := true }, kinds := [], alts := [], laidByText := true, laidKinds := [.data, .data, .data, .data, .sentinel, .sentinel, .pinned, .pinned], laidTests := true, laidLooks := .later }
def RpcBackCardSaid : Prop := Claim7.holds Tryz.pinned (.plain (OpenSpec.ofChange rpcBackSpec)) rpcBackCard

/-- THE TIED CARD OF 'emendlaw24.RpcReplies'. -/
def rpcRepliesCard : Claim7 := { stood := { row := rpcRepliesRow, standIns := [], harness := (true, "e054760908000ad83c5fdba919facb49593b4cb6c672446b1758551667a1631c"), looks := true }, kinds := [], alts := [], laidByText := true, laidKinds := [.data, .data, .data, .data, .sentinel, .sentinel, .data, .data, .pinned, .pinned], laidTests := true, laidLooks := .later }
def RpcRepliesCardSaid : Prop := Claim7.holds Tryz.pinned (.plain (OpenSpec.ofChange rpcRepliesSpec)) rpcRepliesCard

/-- THE TIED CARD OF 'emendlaw24.RpcTold'. -/
def rpcToldCard : Claim7 := { stood := { row := rpcToldRow, standIns := [], harness := (true, "e054760908000ad83c5fdba919facb49593b4cb6c672446b1758551667a1631c"), looks := true }, kinds := [], alts := [], laidByText := true, laidKinds := [.data, .data, .data, .data, .sentinel, .sentinel, .data, .data, .pinned, .pinned], laidTests := true, laidLooks := .later }
def RpcToldCardSaid : Prop := Claim7.holds Tryz.pinned (.plain (OpenSpec.ofChange rpcToldSpec)) rpcToldCard

/-- THE TIED CARD OF 'emendlaw24.RpcKnown'. -/
def rpcKnownCard : Claim7 := { stood := { row := rpcKnownRow, standIns := [], harness := (true, "e054760908000ad83c5fdba919facb49593b4cb6c672446b1758551667a1631c"), looks := true }, kinds := [], alts := [], laidByText := true, laidKinds := [.data, .data, .data, .data, .sentinel, .sentinel, .data, .data, .pinned, .pinned], laidTests := true, laidLooks := .later }
def RpcKnownCardSaid : Prop := Claim7.holds Tryz.pinned (.plain (OpenSpec.ofChange rpcKnownSpec)) rpcKnownCard

/-- THE TIED CARD OF 'emendlaw04.JsonKnown'. -/
def jsonKnownCard : Claim7 := { stood := { row := jsonKnownRow, standIns := [], harness := (true, "e054760908000ad83c5fdba919facb49593b4cb6c672446b1758551667a1631c"), looks := true }, kinds := [], alts := [], laidByText := true, laidKinds := [.data, .data, .data, .data, .sentinel, .sentinel, .pinned, .pinned], laidTests := true, laidLooks := .later }
def JsonKnownCardSaid : Prop := Claim7.holds Tryz.pinned (.plain (OpenSpec.ofChange jsonKnownSpec)) jsonKnownCard

/-- THE TIED CARD OF 'emendlaw25.LspClient'. -/
def lspClientCard : Claim7 := { stood := { row := lspClientRow, standIns := [], harness := (true, "e054760908000ad83c5fdba919facb49593b4cb6c672446b1758551667a1631c"), looks := true }, kinds := [], alts := [], laidByText := true, laidKinds := [.data, .data, .data, .data, .sentinel, .sentinel, .pinned, .pinned], laidTests := true, laidLooks := .later }
def LspClientCardSaid : Prop := Claim7.holds Tryz.pinned (.plain (OpenSpec.ofChange lspClientSpec)) lspClientCard

/-- THE TIED CARD OF 'emendlaw25.LspKnown'. -/
def lspKnownCard : Claim7 := { stood := { row := lspKnownRow, standIns := [], harness := (true, "e054760908000ad83c5fdba919facb49593b4cb6c672446b1758551667a1631c"), looks := true }, kinds := [], alts := [], laidByText := true, laidKinds := [.data, .data, .data, .data, .sentinel, .sentinel, .pinned, .pinned], laidTests := true, laidLooks := .later }
def LspKnownCardSaid : Prop := Claim7.holds Tryz.pinned (.plain (OpenSpec.ofChange lspKnownSpec)) lspKnownCard

/-- THE SECOND FORM's CARD OF 'emendlaw25.LspReads'. -/
def lspReadsUptoCard : Claim7 := { stood := { row := lspReadsUptoRow, standIns := [], harness := (true, "e054760908000ad83c5fdba919facb49593b4cb6c672446b1758551667a1631c"), looks := true }, kinds := [], alts := [], laidByText := true, laidKinds := [.data, .data, .data, .data, .sentinel, .sentinel, .pinned, .pinned], laidTests := true, laidLooks := .later }
def LspReadsUptoCardSaid : Prop := Claim7.holds Tryz.pinned (.plain (OpenSpec.upto lspReadsSpec)) lspReadsUptoCard

/-- THE SECOND FORM's CARD OF 'emendlaw04.JsonLooks'. -/
def jsonLooksUptoCard : Claim7 := { stood := { row := jsonLooksUptoRow, standIns := [], harness := (true, "e054760908000ad83c5fdba919facb49593b4cb6c672446b1758551667a1631c"), looks := true }, kinds := [], alts := [], laidByText := true, laidKinds := [.data, .data, .data, .data, .sentinel, .sentinel, .pinned, .pinned], laidTests := true, laidLooks := .later }
def JsonLooksUptoCardSaid : Prop := Claim7.holds Tryz.pinned (.plain (OpenSpec.upto jsonLooksSpec)) jsonLooksUptoCard

/-- THE SECOND FORM's CARD OF 'emendlaw24.RpcReads'. -/
def rpcReadsUptoCard : Claim7 := { stood := { row := rpcReadsUptoRow, standIns := [], harness := (true, "e054760908000ad83c5fdba919facb49593b4cb6c672446b1758551667a1631c"), looks := true }, kinds := [], alts := [], laidByText := true, laidKinds := [.data, .data, .data, .data, .sentinel, .sentinel, .pinned, .pinned], laidTests := true, laidLooks := .later }
def RpcReadsUptoCardSaid : Prop := Claim7.holds Tryz.pinned (.plain (OpenSpec.upto rpcReadsSpec)) rpcReadsUptoCard

/-- THE SECOND FORM's CARD OF 'emendlaw24.RpcPuts'. -/
def rpcPutsUptoCard : Claim7 := { stood := { row := rpcPutsUptoRow, standIns := [], harness := (true, "e054760908000ad83c5fdba919facb49593b4cb6c672446b1758551667a1631c"), looks := true }, kinds := [], alts := [], laidByText := true, laidKinds := [.data, .data, .data, .data, .sentinel, .sentinel, .pinned, .pinned], laidTests := true, laidLooks := .later }
def RpcPutsUptoCardSaid : Prop := Claim7.holds Tryz.pinned (.plain (OpenSpec.upto rpcPutsSpec)) rpcPutsUptoCard

/-- THE SECOND FORM's CARD OF 'emendlaw24.RpcBack'. -/
def rpcBackUptoCard : Claim7 := { stood := { row := rpcBackUptoRow, standIns := [], harness := (true, "e054760908000ad83c5fdba919facb49593b4cb6c672446b1758551667a1631c"), looks := true }, kinds := [], alts := [], laidByText := true, laidKinds := [.data, .data, .data, .data, .sentinel, .sentinel, .pinned, .pinned], laidTests := true, laidLooks := .later }
def RpcBackUptoCardSaid : Prop := Claim7.holds Tryz.pinned (.plain (OpenSpec.upto rpcBackSpec)) rpcBackUptoCard

/-- THE SECOND FORM's CARD OF 'emendlaw24.RpcReplies'. -/
def rpcRepliesUptoCard : Claim7 := { stood := { row := rpcRepliesUptoRow, standIns := [], harness := (true, "e054760908000ad83c5fdba919facb49593b4cb6c672446b1758551667a1631c"), looks := true }, kinds := [], alts := [], laidByText := true, laidKinds := [.data, .data, .data, .data, .sentinel, .sentinel, .data, .data, .pinned, .pinned], laidTests := true, laidLooks := .later }
def RpcRepliesUptoCardSaid : Prop := Claim7.holds Tryz.pinned (.plain (OpenSpec.upto rpcRepliesSpec)) rpcRepliesUptoCard

/-- THE SECOND FORM's CARD OF 'emendlaw24.RpcTold'. -/
def rpcToldUptoCard : Claim7 := { stood := { row := rpcToldUptoRow, standIns := [], harness := (true, "e054760908000ad83c5fdba919facb49593b4cb6c672446b1758551667a1631c"), looks := true }, kinds := [], alts := [], laidByText := true, laidKinds := [.data, .data, .data, .data, .sentinel, .sentinel, .data, .data, .pinned, .pinned], laidTests := true, laidLooks := .later }
def RpcToldUptoCardSaid : Prop := Claim7.holds Tryz.pinned (.plain (OpenSpec.upto rpcToldSpec)) rpcToldUptoCard

/-- THE SECOND FORM's CARD OF 'emendlaw24.RpcKnown'. -/
def rpcKnownUptoCard : Claim7 := { stood := { row := rpcKnownUptoRow, standIns := [], harness := (true, "e054760908000ad83c5fdba919facb49593b4cb6c672446b1758551667a1631c"), looks := true }, kinds := [], alts := [], laidByText := true, laidKinds := [.data, .data, .data, .data, .sentinel, .sentinel, .data, .data, .pinned, .pinned], laidTests := true, laidLooks := .later }
def RpcKnownUptoCardSaid : Prop := Claim7.holds Tryz.pinned (.plain (OpenSpec.upto rpcKnownSpec)) rpcKnownUptoCard

/-- THE SECOND FORM's CARD OF 'emendlaw04.JsonKnown'. -/
def jsonKnownUptoCard : Claim7 := { stood := { row := jsonKnownUptoRow, standIns := [], harness := (true, "e054760908000ad83c5fdba919facb49593b4cb6c672446b1758551667a1631c"), looks := true }, kinds := [], alts := [], laidByText := true, laidKinds := [.data, .data, .data, .data, .sentinel, .sentinel, .pinned, .pinned], laidTests := true, laidLooks := .later }
def JsonKnownUptoCardSaid : Prop := Claim7.holds Tryz.pinned (.plain (OpenSpec.upto jsonKnownSpec)) jsonKnownUptoCard

/-- THE SECOND FORM's CARD OF 'emendlaw25.LspClient'. -/
def lspClientUptoCard : Claim7 := { stood := { row := lspClientUptoRow, standIns := [], harness := (true, "e054760908000ad83c5fdba919facb49593b4cb6c672446b1758551667a1631c"), looks := true }, kinds := [], alts := [], laidByText := true, laidKinds := [.data, .data, .data, .data, .sentinel, .sentinel, .pinned, .pinned], laidTests := true, laidLooks := .later }
def LspClientUptoCardSaid : Prop := Claim7.holds Tryz.pinned (.plain (OpenSpec.upto lspClientSpec)) lspClientUptoCard

/-- THE SECOND FORM's CARD OF 'emendlaw25.LspKnown'. -/
def lspKnownUptoCard : Claim7 := { stood := { row := lspKnownUptoRow, standIns := [], harness := (true, "e054760908000ad83c5fdba919facb49593b4cb6c672446b1758551667a1631c"), looks := true }, kinds := [], alts := [], laidByText := true, laidKinds := [.data, .data, .data, .data, .sentinel, .sentinel, .pinned, .pinned], laidTests := true, laidLooks := .later }
def LspKnownUptoCardSaid : Prop := Claim7.holds Tryz.pinned (.plain (OpenSpec.upto lspKnownSpec)) lspKnownUptoCard
end Rows
end Go.Proofs.YtaiaiiepbpbmmaaGreatDoor
