/-
  No cell of these rows narrows 'for every input' (looked for: loops, veiled, ifaces, maps, wideKeys, modest, calm, conditions, laid).
  DERIVED. THE GIVEN ROWS OF THIS SEAT. 6 by the template 'for every input the law returns true; each argument reads behind the call as it read before'; 0 by the template 'total and deterministic' (their statements: YtipbojiialfmeaaTotals.lean).
  GIVEN WITH THE SEED: the statements are not yours to turn. If you find one false, say at which input.
  Laid BY PROGRAM, IN A SANDBOX (cutbox-rows.mjs): the forced cells as the released guide's own fill.sh prints them over the translation d15006501838bf71… (all of the seat's roots in one cut). By AI agents, Wed Nov 11 2026. No macro, syntax, notation, axiom, sorry.
-/
import Derived.Test.YtipbojiialfmeaaChecked
import GoSem.Claim
import GoSem.ClaimJoined
import GoSem.ClaimMapViews
import Derived.JoinedTies
import Derived.KernelRfl
namespace Go.Proofs.Ytipbojiialfmeaa
/- THE CELL 'sum', in the pinned program and in every row, IS THE sha256 OF THE DUMP (.gsa) THAT YtipbojiialfmeaaProg.lean LOADS. Nothing in Lean hashes anything: it is a label: what it is worth is what the hold of that sum in a sandbox is worth. -/
noncomputable def Try.pinned : Pinned := { name := "ytipbojiialfmeaa", sum := "d15006501838bf71b044e29f2623d76f19e84058fdaf5360477f8379ad35c125", checked := Try.checked }
namespace Rows
def none {H : Type} : Left H := { results := [], args := [] }

/-- 'emendlaw06.LinesRows': WHATEVER THE INPUT: true; the input reads as it did. -/
def linesRowsSpec : ChangeSpec := { name := "linesRows", fn := fun _ => fun
  | [d1, d2] => { results := [.lit (.bool true)], args := [d1, d2] }
  | _ => none }
def linesRowsRow : OpenClaim := { program := "ytipbojiialfmeaa", sum := "d15006501838bf71b044e29f2623d76f19e84058fdaf5360477f8379ad35c125", func := "emend/emendlaw06.LinesRows", spec := "linesRows", inPlace := ["internal/bytealg.IndexByteString", "internal/bytealg.IndexString"], unfollowed := true, recurses := true, named := ["internal/bytealg.MaxLen"], apart := false }
def LinesRowsSaid : Prop := linesRowsRow.holds Try.pinned (OpenSpec.ofChange linesRowsSpec)

/-- ITS FALSE NEIGHBOUR: 'it returns false'. Refute it at one input. -/
def linesRowsWrong : ChangeSpec := { name := "linesRows", fn := fun _ => fun
  | [d1, d2] => { results := [.lit (.bool false)], args := [d1, d2] }
  | _ => none }
def LinesRowsWrongFalsely : Prop := linesRowsRow.holds Try.pinned (OpenSpec.ofChange linesRowsWrong)

/-- 'emendlaw06.LinesRise': WHATEVER THE INPUT: true; the input reads as it did. -/
def linesRiseSpec : ChangeSpec := { name := "linesRise", fn := fun _ => fun
  | [d1, d2, d3] => { results := [.lit (.bool true)], args := [d1, d2, d3] }
  | _ => none }
def linesRiseRow : OpenClaim := { program := "ytipbojiialfmeaa", sum := "d15006501838bf71b044e29f2623d76f19e84058fdaf5360477f8379ad35c125", func := "emend/emendlaw06.LinesRise", spec := "linesRise", inPlace := ["internal/bytealg.IndexByteString", "internal/bytealg.IndexString"], unfollowed := true, recurses := true, named := ["internal/bytealg.MaxLen"], apart := false }
def LinesRiseSaid : Prop := linesRiseRow.holds Try.pinned (OpenSpec.ofChange linesRiseSpec)

/-- ITS FALSE NEIGHBOUR: 'it returns false'. Refute it at one input. -/
def linesRiseWrong : ChangeSpec := { name := "linesRise", fn := fun _ => fun
  | [d1, d2, d3] => { results := [.lit (.bool false)], args := [d1, d2, d3] }
  | _ => none }
def LinesRiseWrongFalsely : Prop := linesRiseRow.holds Try.pinned (OpenSpec.ofChange linesRiseWrong)

/-- 'emendlaw06.LinesPlaces': WHATEVER THE INPUT: true; the input reads as it did. -/
def linesPlacesSpec : ChangeSpec := { name := "linesPlaces", fn := fun _ => fun
  | [d1, d2, d3] => { results := [.lit (.bool true)], args := [d1, d2, d3] }
  | _ => none }
def linesPlacesRow : OpenClaim := { program := "ytipbojiialfmeaa", sum := "d15006501838bf71b044e29f2623d76f19e84058fdaf5360477f8379ad35c125", func := "emend/emendlaw06.LinesPlaces", spec := "linesPlaces", inPlace := ["internal/bytealg.IndexByteString", "internal/bytealg.IndexString"], unfollowed := true, recurses := true, named := ["internal/bytealg.MaxLen"], apart := false }
def LinesPlacesSaid : Prop := linesPlacesRow.holds Try.pinned (OpenSpec.ofChange linesPlacesSpec)

/-- ITS FALSE NEIGHBOUR: 'it returns false'. Refute it at one input. -/
def linesPlacesWrong : ChangeSpec := { name := "linesPlaces", fn := fun _ => fun
  | [d1, d2, d3] => { results := [.lit (.bool false)], args := [d1, d2, d3] }
  | _ => none }
def LinesPlacesWrongFalsely : Prop := linesPlacesRow.holds Try.pinned (OpenSpec.ofChange linesPlacesWrong)

/-- 'emendlaw06.LinesWhole': WHATEVER THE INPUT: true; the input reads as it did. -/
def linesWholeSpec : ChangeSpec := { name := "linesWhole", fn := fun _ => fun
  | [d] => { results := [.lit (.bool true)], args := [d] }
  | _ => none }
def linesWholeRow : OpenClaim := { program := "ytipbojiialfmeaa", sum := "d15006501838bf71b044e29f2623d76f19e84058fdaf5360477f8379ad35c125", func := "emend/emendlaw06.LinesWhole", spec := "linesWhole", inPlace := ["internal/bytealg.IndexByteString", "internal/bytealg.IndexString"], unfollowed := true, recurses := true, named := ["internal/bytealg.MaxLen"], apart := false }
def LinesWholeSaid : Prop := linesWholeRow.holds Try.pinned (OpenSpec.ofChange linesWholeSpec)

/-- ITS FALSE NEIGHBOUR: 'it returns false'. Refute it at one input. -/
def linesWholeWrong : ChangeSpec := { name := "linesWhole", fn := fun _ => fun
  | [d] => { results := [.lit (.bool false)], args := [d] }
  | _ => none }
def LinesWholeWrongFalsely : Prop := linesWholeRow.holds Try.pinned (OpenSpec.ofChange linesWholeWrong)

/-- 'emendlaw06.LinesCuts': WHATEVER THE INPUT: true; the input reads as it did. -/
def linesCutsSpec : ChangeSpec := { name := "linesCuts", fn := fun _ => fun
  | [d1, d2] => { results := [.lit (.bool true)], args := [d1, d2] }
  | _ => none }
def linesCutsRow : OpenClaim := { program := "ytipbojiialfmeaa", sum := "d15006501838bf71b044e29f2623d76f19e84058fdaf5360477f8379ad35c125", func := "emend/emendlaw06.LinesCuts", spec := "linesCuts", inPlace := ["internal/bytealg.IndexByteString", "internal/bytealg.IndexString"], unfollowed := true, recurses := true, named := ["internal/bytealg.MaxLen"], apart := false }
def LinesCutsSaid : Prop := linesCutsRow.holds Try.pinned (OpenSpec.ofChange linesCutsSpec)

/-- ITS FALSE NEIGHBOUR: 'it returns false'. Refute it at one input. -/
def linesCutsWrong : ChangeSpec := { name := "linesCuts", fn := fun _ => fun
  | [d1, d2] => { results := [.lit (.bool false)], args := [d1, d2] }
  | _ => none }
def LinesCutsWrongFalsely : Prop := linesCutsRow.holds Try.pinned (OpenSpec.ofChange linesCutsWrong)

/-- 'emendlaw06.LinesKnown': WHATEVER THE INPUT: true; the input reads as it did. -/
def linesKnownSpec : ChangeSpec := { name := "linesKnown", fn := fun _ => fun
  | [] => { results := [.lit (.bool true)], args := [] }
  | _ => none }
def linesKnownRow : OpenClaim := { program := "ytipbojiialfmeaa", sum := "d15006501838bf71b044e29f2623d76f19e84058fdaf5360477f8379ad35c125", func := "emend/emendlaw06.LinesKnown", spec := "linesKnown", inPlace := ["internal/bytealg.IndexByteString", "internal/bytealg.IndexString"], unfollowed := true, recurses := true, named := ["internal/bytealg.MaxLen"], apart := false }
def LinesKnownSaid : Prop := linesKnownRow.holds Try.pinned (OpenSpec.ofChange linesKnownSpec)

/-- ITS FALSE NEIGHBOUR: 'it returns false'. Refute it at one input. -/
def linesKnownWrong : ChangeSpec := { name := "linesKnown", fn := fun _ => fun
  | [] => { results := [.lit (.bool false)], args := [] }
  | _ => none }
def LinesKnownWrongFalsely : Prop := linesKnownRow.holds Try.pinned (OpenSpec.ofChange linesKnownWrong)

/- THE SECOND FORM. 'bulk': how many values and letters a reading holds, each counted each time it is reached (what is shared counts as often as it is met; a slice's spare places count too). A statement '..UptoSaid' is the law's where the arguments, and the package variables that the reading takes, are together of bulk at most 1048576: NARROWER than '..Said'. Prove '..Said' where nothing that the law and all that it calls make is longer than what came in: it says more and counts as full. Else prove '..UptoSaid'. A law counts once. -/
mutual
def uptoBulk {H : Type} : DataW H → Nat
  | .lit (.string bytes) => bytes.length + 1
  | .lit _ => 1
  | .nil => 1
  | .ptr d => uptoBulk d + 1
  | .slice elems spare => uptoBulkAll elems + uptoBulkAll spare + 1
  | .agg parts => uptoBulkAll parts + 1
  | .iface _ d => uptoBulk d + 1
  | .map entries => uptoBulkEntries entries + 1
  | .held _ => 1
def uptoBulkAll {H : Type} : List (DataW H) → Nat
  | [] => 0
  | d :: r => uptoBulk d + uptoBulkAll r
def uptoBulkEntries {H : Type} : List (Lit × DataW H) → Nat
  | [] => 0
  | x :: r => uptoBulkEntry x + uptoBulkEntries r
def uptoBulkEntry {H : Type} : Lit × DataW H → Nat
  | (.string bytes, d) => bytes.length + uptoBulk d + 1
  | (_, d) => uptoBulk d + 1
 end
def uptoSmall : (H : Type) → List (DataW H) → Bool := fun _ ds => decide (uptoBulkAll ds ≤ 1048576)
def OpenSpec.upto (s : _root_.Go.ChangeSpec) : _root_.Go.OpenSpec := { _root_.Go.OpenSpec.ofChange s with cond := some uptoSmall }

/-- 'emendlaw06.LinesRows', WHERE WHAT IT READS IS OF BULK AT MOST 1048576: true; the input reads as it did. -/
def linesRowsUptoRow : OpenClaim := { program := "ytipbojiialfmeaa", sum := "d15006501838bf71b044e29f2623d76f19e84058fdaf5360477f8379ad35c125", func := "emend/emendlaw06.LinesRows", spec := "linesRows", inPlace := ["internal/bytealg.IndexByteString", "internal/bytealg.IndexString"], unfollowed := true, recurses := true, named := ["internal/bytealg.MaxLen"], apart := false, narrowed := true }
def LinesRowsUptoSaid : Prop := linesRowsUptoRow.holds Try.pinned (OpenSpec.upto linesRowsSpec)

/-- 'emendlaw06.LinesRise', WHERE WHAT IT READS IS OF BULK AT MOST 1048576: true; the input reads as it did. -/
def linesRiseUptoRow : OpenClaim := { program := "ytipbojiialfmeaa", sum := "d15006501838bf71b044e29f2623d76f19e84058fdaf5360477f8379ad35c125", func := "emend/emendlaw06.LinesRise", spec := "linesRise", inPlace := ["internal/bytealg.IndexByteString", "internal/bytealg.IndexString"], unfollowed := true, recurses := true, named := ["internal/bytealg.MaxLen"], apart := false, narrowed := true }
def LinesRiseUptoSaid : Prop := linesRiseUptoRow.holds Try.pinned (OpenSpec.upto linesRiseSpec)

/-- 'emendlaw06.LinesPlaces', WHERE WHAT IT READS IS OF BULK AT MOST 1048576: true; the input reads as it did. -/
def linesPlacesUptoRow : OpenClaim := { program := "ytipbojiialfmeaa", sum := "d15006501838bf71b044e29f2623d76f19e84058fdaf5360477f8379ad35c125", func := "emend/emendlaw06.LinesPlaces", spec := "linesPlaces", inPlace := ["internal/bytealg.IndexByteString", "internal/bytealg.IndexString"], unfollowed := true, recurses := true, named := ["internal/bytealg.MaxLen"], apart := false, narrowed := true }
def LinesPlacesUptoSaid : Prop := linesPlacesUptoRow.holds Try.pinned (OpenSpec.upto linesPlacesSpec)

/-- 'emendlaw06.LinesWhole', WHERE WHAT IT READS IS OF BULK AT MOST 1048576: true; the input reads as it did. -/
def linesWholeUptoRow : OpenClaim := { program := "ytipbojiialfmeaa", sum := "d15006501838bf71b044e29f2623d76f19e84058fdaf5360477f8379ad35c125", func := "emend/emendlaw06.LinesWhole", spec := "linesWhole", inPlace := ["internal/bytealg.IndexByteString", "internal/bytealg.IndexString"], unfollowed := true, recurses := true, named := ["internal/bytealg.MaxLen"], apart := false, narrowed := true }
def LinesWholeUptoSaid : Prop := linesWholeUptoRow.holds Try.pinned (OpenSpec.upto linesWholeSpec)

/-- 'emendlaw06.LinesCuts', WHERE WHAT IT READS IS OF BULK AT MOST 1048576: true; the input reads as it did. -/
def linesCutsUptoRow : OpenClaim := { program := "ytipbojiialfmeaa", sum := "d15006501838bf71b044e29f2623d76f19e84058fdaf5360477f8379ad35c125", func := "emend/emendlaw06.LinesCuts", spec := "linesCuts", inPlace := ["internal/bytealg.IndexByteString", "internal/bytealg.IndexString"], unfollowed := true, recurses := true, named := ["internal/bytealg.MaxLen"], apart := false, narrowed := true }
def LinesCutsUptoSaid : Prop := linesCutsUptoRow.holds Try.pinned (OpenSpec.upto linesCutsSpec)

/-- 'emendlaw06.LinesKnown', WHERE WHAT IT READS IS OF BULK AT MOST 1048576: true; the input reads as it did. -/
def linesKnownUptoRow : OpenClaim := { program := "ytipbojiialfmeaa", sum := "d15006501838bf71b044e29f2623d76f19e84058fdaf5360477f8379ad35c125", func := "emend/emendlaw06.LinesKnown", spec := "linesKnown", inPlace := ["internal/bytealg.IndexByteString", "internal/bytealg.IndexString"], unfollowed := true, recurses := true, named := ["internal/bytealg.MaxLen"], apart := false, narrowed := true }
def LinesKnownUptoSaid : Prop := linesKnownUptoRow.holds Try.pinned (OpenSpec.upto linesKnownSpec)

end Rows
end Go.Proofs.Ytipbojiialfmeaa
