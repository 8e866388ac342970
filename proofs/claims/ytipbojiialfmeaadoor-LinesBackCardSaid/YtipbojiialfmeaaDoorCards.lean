/-
  DERIVED. GIVEN WITH THE SEED: THE CARDS: each row of YtipbojiialfmeaaDoorRows.lean that lists a variable, with what it lists TIED to the program's text (the seventh form; the later family's looks); each row that meets fmt, with fmt's text TOLD by the authors' own Lean function (tested against real Go, not proved from fmt's source: count such statements apart). THE CARD IS WHAT COUNTS. Prove the row's statement (the work); the ties are given (YtipbojiialfmeaaDoorTie.lean); close each card by the builder's one call (the guide's Derived/Test/ToyasCard.lean, 'card_holds'). Laid BY PROGRAM, IN A SANDBOX (cutbox-door.mjs). By AI agents, Wed Nov 11 2026. No macro, syntax, notation, axiom, sorry.
-/
import Derived.Test.YtipbojiialfmeaaDoorRows
import GoSem.ClaimSeven
namespace Go.Proofs.YtipbojiialfmeaaDoor
namespace Rows

/-- THE TIED CARD OF 'emendlaw02.UtfEncodes'. -/
def utfEncodesCard : Claim7 := { stood := { row := utfEncodesRow, standIns := [], harness := (true, "fc5362ae3955a588154ec4e0fcab31f96881a0ef93ca0c9ab33c87ddf700c9d2"), looks := false }, kinds := [], alts := [], laidByText := true, laidKinds := [.data, .pinned], laidTests := true, laidLooks := .later }
def UtfEncodesCardSaid : Prop := Claim7.holds Tryd.pinned (.plain (OpenSpec.ofChange utfEncodesSpec)) utfEncodesCard

/-- THE TIED CARD OF 'emendlaw02.UtfUnits'. -/
def utfUnitsCard : Claim7 := { stood := { row := utfUnitsRow, standIns := [], harness := (true, "fc5362ae3955a588154ec4e0fcab31f96881a0ef93ca0c9ab33c87ddf700c9d2"), looks := false }, kinds := [], alts := [], laidByText := true, laidKinds := [.data, .pinned], laidTests := true, laidLooks := .later }
def UtfUnitsCardSaid : Prop := Claim7.holds Tryd.pinned (.plain (OpenSpec.ofChange utfUnitsSpec)) utfUnitsCard

/-- THE TIED CARD OF 'emendlaw02.UtfPlaces'. -/
def utfPlacesCard : Claim7 := { stood := { row := utfPlacesRow, standIns := [], harness := (true, "fc5362ae3955a588154ec4e0fcab31f96881a0ef93ca0c9ab33c87ddf700c9d2"), looks := false }, kinds := [], alts := [], laidByText := true, laidKinds := [.data, .pinned], laidTests := true, laidLooks := .later }
def UtfPlacesCardSaid : Prop := Claim7.holds Tryd.pinned (.plain (OpenSpec.ofChange utfPlacesSpec)) utfPlacesCard

/-- THE TIED CARD OF 'emendlaw02.UtfDecodes'. -/
def utfDecodesCard : Claim7 := { stood := { row := utfDecodesRow, standIns := [], harness := (true, "fc5362ae3955a588154ec4e0fcab31f96881a0ef93ca0c9ab33c87ddf700c9d2"), looks := false }, kinds := [], alts := [], laidByText := true, laidKinds := [.data, .pinned], laidTests := true, laidLooks := .later }
def UtfDecodesCardSaid : Prop := Claim7.holds Tryd.pinned (.plain (OpenSpec.ofChange utfDecodesSpec)) utfDecodesCard

/-- THE TIED CARD OF 'emendlaw02.UtfJoins'. -/
def utfJoinsCard : Claim7 := { stood := { row := utfJoinsRow, standIns := [], harness := (true, "fc5362ae3955a588154ec4e0fcab31f96881a0ef93ca0c9ab33c87ddf700c9d2"), looks := false }, kinds := [], alts := [], laidByText := true, laidKinds := [.data, .pinned], laidTests := true, laidLooks := .later }
def UtfJoinsCardSaid : Prop := Claim7.holds Tryd.pinned (.plain (OpenSpec.ofChange utfJoinsSpec)) utfJoinsCard

/-- THE TIED CARD OF 'emendlaw02.UtfKnown'. -/
def utfKnownCard : Claim7 := { stood := { row := utfKnownRow, standIns := [], harness := (true, "fc5362ae3955a588154ec4e0fcab31f96881a0ef93ca0c9ab33c87ddf700c9d2"), looks := false }, kinds := [], alts := [], laidByText := true, laidKinds := [.data, .pinned], laidTests := true, laidLooks := .later }
def UtfKnownCardSaid : Prop := Claim7.holds Tryd.pinned (.plain (OpenSpec.ofChange utfKnownSpec)) utfKnownCard

/-- THE TIED CARD OF 'emendlaw02.UtfBack'. -/
def utfBackCard : Claim7 := { stood := { row := utfBackRow, standIns := [], harness := (true, "fc5362ae3955a588154ec4e0fcab31f96881a0ef93ca0c9ab33c87ddf700c9d2"), looks := false }, kinds := [], alts := [], laidByText := true, laidKinds := [.data, .pinned], laidTests := true, laidLooks := .later }
def UtfBackCardSaid : Prop := Claim7.holds Tryd.pinned (.plain (OpenSpec.ofChange utfBackSpec)) utfBackCard

/-- THE TIED CARD OF 'emendlaw06.LinesBack'. -/
def linesBackCard : Claim7 := { stood := { row := linesBackRow, standIns := [], harness := (true, "fc5362ae3955a588154ec4e0fcab31f96881a0ef93ca0c9ab33c87ddf700c9d2"), looks := false }, kinds := [], alts := [], laidByText := true, laidKinds := [.data, .pinned], laidTests := true, laidLooks := .later }
def LinesBackCardSaid : Prop := Claim7.holds Tryd.pinned (.plain (OpenSpec.ofChange linesBackSpec)) linesBackCard

/-- THE SECOND FORM's CARD OF 'emendlaw02.UtfEncodes'. -/
def utfEncodesUptoCard : Claim7 := { stood := { row := utfEncodesUptoRow, standIns := [], harness := (true, "fc5362ae3955a588154ec4e0fcab31f96881a0ef93ca0c9ab33c87ddf700c9d2"), looks := false }, kinds := [], alts := [], laidByText := true, laidKinds := [.data, .pinned], laidTests := true, laidLooks := .later }
def UtfEncodesUptoCardSaid : Prop := Claim7.holds Tryd.pinned (.plain (OpenSpec.upto utfEncodesSpec)) utfEncodesUptoCard

/-- THE SECOND FORM's CARD OF 'emendlaw02.UtfUnits'. -/
def utfUnitsUptoCard : Claim7 := { stood := { row := utfUnitsUptoRow, standIns := [], harness := (true, "fc5362ae3955a588154ec4e0fcab31f96881a0ef93ca0c9ab33c87ddf700c9d2"), looks := false }, kinds := [], alts := [], laidByText := true, laidKinds := [.data, .pinned], laidTests := true, laidLooks := .later }
def UtfUnitsUptoCardSaid : Prop := Claim7.holds Tryd.pinned (.plain (OpenSpec.upto utfUnitsSpec)) utfUnitsUptoCard

/-- THE SECOND FORM's CARD OF 'emendlaw02.UtfPlaces'. -/
def utfPlacesUptoCard : Claim7 := { stood := { row := utfPlacesUptoRow, standIns := [], harness := (true, "fc5362ae3955a588154ec4e0fcab31f96881a0ef93ca0c9ab33c87ddf700c9d2"), looks := false }, kinds := [], alts := [], laidByText := true, laidKinds := [.data, .pinned], laidTests := true, laidLooks := .later }
def UtfPlacesUptoCardSaid : Prop := Claim7.holds Tryd.pinned (.plain (OpenSpec.upto utfPlacesSpec)) utfPlacesUptoCard

/-- THE SECOND FORM's CARD OF 'emendlaw02.UtfDecodes'. -/
def utfDecodesUptoCard : Claim7 := { stood := { row := utfDecodesUptoRow, standIns := [], harness := (true, "fc5362ae3955a588154ec4e0fcab31f96881a0ef93ca0c9ab33c87ddf700c9d2"), looks := false }, kinds := [], alts := [], laidByText := true, laidKinds := [.data, .pinned], laidTests := true, laidLooks := .later }
def UtfDecodesUptoCardSaid : Prop := Claim7.holds Tryd.pinned (.plain (OpenSpec.upto utfDecodesSpec)) utfDecodesUptoCard

/-- THE SECOND FORM's CARD OF 'emendlaw02.UtfJoins'. -/
def utfJoinsUptoCard : Claim7 := { stood := { row := utfJoinsUptoRow, standIns := [], harness := (true, "fc5362ae3955a588154ec4e0fcab31f96881a0ef93ca0c9ab33c87ddf700c9d2"), looks := false }, kinds := [], alts := [], laidByText := true, laidKinds := [.data, .pinned], laidTests := true, laidLooks := .later }
def UtfJoinsUptoCardSaid : Prop := Claim7.holds Tryd.pinned (.plain (OpenSpec.upto utfJoinsSpec)) utfJoinsUptoCard

/-- THE SECOND FORM's CARD OF 'emendlaw02.UtfKnown'. -/
def utfKnownUptoCard : Claim7 := { stood := { row := utfKnownUptoRow, standIns := [], harness := (true, "fc5362ae3955a588154ec4e0fcab31f96881a0ef93ca0c9ab33c87ddf700c9d2"), looks := false }, kinds := [], alts := [], laidByText := true, laidKinds := [.data, .pinned], laidTests := true, laidLooks := .later }
def UtfKnownUptoCardSaid : Prop := Claim7.holds Tryd.pinned (.plain (OpenSpec.upto utfKnownSpec)) utfKnownUptoCard

/-- THE SECOND FORM's CARD OF 'emendlaw02.UtfBack'. -/
def utfBackUptoCard : Claim7 := { stood := { row := utfBackUptoRow, standIns := [], harness := (true, "fc5362ae3955a588154ec4e0fcab31f96881a0ef93ca0c9ab33c87ddf700c9d2"), looks := false }, kinds := [], alts := [], laidByText := true, laidKinds := [.data, .pinned], laidTests := true, laidLooks := .later }
def UtfBackUptoCardSaid : Prop := Claim7.holds Tryd.pinned (.plain (OpenSpec.upto utfBackSpec)) utfBackUptoCard

/-- THE SECOND FORM's CARD OF 'emendlaw06.LinesBack'. -/
def linesBackUptoCard : Claim7 := { stood := { row := linesBackUptoRow, standIns := [], harness := (true, "fc5362ae3955a588154ec4e0fcab31f96881a0ef93ca0c9ab33c87ddf700c9d2"), looks := false }, kinds := [], alts := [], laidByText := true, laidKinds := [.data, .pinned], laidTests := true, laidLooks := .later }
def LinesBackUptoCardSaid : Prop := Claim7.holds Tryd.pinned (.plain (OpenSpec.upto linesBackSpec)) linesBackUptoCard
end Rows
end Go.Proofs.YtipbojiialfmeaaDoor
