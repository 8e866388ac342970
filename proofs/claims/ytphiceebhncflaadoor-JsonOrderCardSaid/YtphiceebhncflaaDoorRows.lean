/-
  NARROWER THAN 'FOR EVERY INPUT', by the rows' own cells (each row's printed sentence says how): JtextTokens: laid · JtextTiles: laid · JtextLoose: laid · JtextQuotes: laid · JtextKnown: laid · JtextBack: laid · JsonSays: laid · JsonBlanks: loops, laid · JsonBack: loops, laid · JsonOrder: loops, laid.
  DERIVED. THE GIVEN ROWS OF THIS SEAT. 10 by the template 'for every input the law returns true; each argument reads behind the call as it read before'; 0 by the template 'total and deterministic' (their statements: YtphiceebhncflaaDoorTotals.lean).
  GIVEN WITH THE SEED: the statements are not yours to turn. If you find one false, say at which input.
  Laid BY PROGRAM, IN A SANDBOX (cutbox-rows.mjs): the forced cells as the released guide's own fill.sh prints them over the translation a97b17fcbb6cdd8b… (all of the seat's roots in one cut). By AI agents, Wed Nov 11 2026. No macro, syntax, notation, axiom, sorry.
-/
import Derived.Test.YtphiceebhncflaaDoorChecked
import GoSem.PinnedTables
import GoSem.Claim
import GoSem.ClaimJoined
import GoSem.ClaimMapViews
import Derived.JoinedTies
import Derived.KernelRfl
namespace Go.Proofs.YtphiceebhncflaaDoor
/- THE CELL 'sum', in the pinned program and in every row, IS THE sha256 OF THE DUMP (.gsa) THAT YtphiceebhncflaaDoorProg.lean LOADS. Nothing in Lean hashes anything: it is a label: what it is worth is what the hold of that sum in a sandbox is worth. -/
noncomputable def Tryd.pinned : Pinned := { name := "ytphiceebhncflaadoor", sum := "a97b17fcbb6cdd8be827a266c7731041733ef04c1c9cfab015c4fef9ad02ecfe", checked := Tryd.checked }
namespace Rows
def none {H : Type} : Left H := { results := [], args := [] }

/- WHAT THE LISTED PACKAGE-LEVEL VARIABLES READ AS WHEN THE CALL BEGINS. Each datum BY PROGRAM (the guide's laid-datum.mjs) off the statement by which the dump's own 'gosem.cut.vars' lays the variable. In a bare row this is a premise. The card (YtphiceebhncflaaDoorCards.lean) ties it to the program's text. -/
def laid_unicode_utf8_acceptRanges {H : Type} : DataW H := .agg [.agg [.lit (.int .u8 128), .lit (.int .u8 191)], .agg [.lit (.int .u8 160), .lit (.int .u8 191)], .agg [.lit (.int .u8 128), .lit (.int .u8 159)], .agg [.lit (.int .u8 144), .lit (.int .u8 191)], .agg [.lit (.int .u8 128), .lit (.int .u8 143)], .agg [.lit (.int .u8 0), .lit (.int .u8 0)], .agg [.lit (.int .u8 0), .lit (.int .u8 0)], .agg [.lit (.int .u8 0), .lit (.int .u8 0)], .agg [.lit (.int .u8 0), .lit (.int .u8 0)], .agg [.lit (.int .u8 0), .lit (.int .u8 0)], .agg [.lit (.int .u8 0), .lit (.int .u8 0)], .agg [.lit (.int .u8 0), .lit (.int .u8 0)], .agg [.lit (.int .u8 0), .lit (.int .u8 0)], .agg [.lit (.int .u8 0), .lit (.int .u8 0)], .agg [.lit (.int .u8 0), .lit (.int .u8 0)], .agg [.lit (.int .u8 0), .lit (.int .u8 0)]]
/-- One of Go's own tables, pinned by name: the form's constant. -/
def laid_unicode_CaseRanges : DataW Unit := Go.Pinned.caseRanges
/-- One of Go's own tables, pinned by name: the form's constant. -/
def laid_unicode_utf8_first : DataW Unit := Go.Pinned.utf8First

/-- 'emendlaw03.JtextTokens': WHATEVER THE INPUT: true; the input reads as it did. -/
def jtextTokensSpec : ChangeSpec := { name := "jtextTokens", fn := fun _ => fun
  | [d] => { results := [.lit (.bool true)], args := [d] }
  | _ => none }
def jtextTokensRow : OpenClaim := { program := "ytphiceebhncflaadoor", sum := "a97b17fcbb6cdd8be827a266c7731041733ef04c1c9cfab015c4fef9ad02ecfe", func := "emend/emendlaw03.JtextTokens", spec := "jtextTokens", inPlace := ["internal/bytealg.IndexByteString", "internal/bytealg.IndexString", "internal/abi.NoEscape", "internal/bytealg.MakeNoZero"], unfollowed := true, recurses := true, named := ["unicode/utf8.first", "unicode/utf8.acceptRanges", "unicode.CaseRanges", "internal/bytealg.MaxLen"], apart := false, laid := [("unicode/utf8.acceptRanges", laid_unicode_utf8_acceptRanges), ("unicode.CaseRanges", laid_unicode_CaseRanges), ("unicode/utf8.first", laid_unicode_utf8_first)] }
def JtextTokensSaid : Prop := jtextTokensRow.holds Tryd.pinned (OpenSpec.ofChange jtextTokensSpec)

/-- ITS FALSE NEIGHBOUR: 'it returns false'. Refute it at one input. -/
def jtextTokensWrong : ChangeSpec := { name := "jtextTokens", fn := fun _ => fun
  | [d] => { results := [.lit (.bool false)], args := [d] }
  | _ => none }
def JtextTokensWrongFalsely : Prop := jtextTokensRow.holds Tryd.pinned (OpenSpec.ofChange jtextTokensWrong)

/-- 'emendlaw03.JtextTiles': WHATEVER THE INPUT: true; the input reads as it did. -/
def jtextTilesSpec : ChangeSpec := { name := "jtextTiles", fn := fun _ => fun
  | [d] => { results := [.lit (.bool true)], args := [d] }
  | _ => none }
def jtextTilesRow : OpenClaim := { program := "ytphiceebhncflaadoor", sum := "a97b17fcbb6cdd8be827a266c7731041733ef04c1c9cfab015c4fef9ad02ecfe", func := "emend/emendlaw03.JtextTiles", spec := "jtextTiles", inPlace := ["internal/bytealg.IndexByteString", "internal/bytealg.IndexString", "internal/abi.NoEscape", "internal/bytealg.MakeNoZero"], unfollowed := true, recurses := true, named := ["unicode/utf8.first", "unicode/utf8.acceptRanges", "unicode.CaseRanges", "internal/bytealg.MaxLen"], apart := false, laid := [("unicode/utf8.acceptRanges", laid_unicode_utf8_acceptRanges), ("unicode.CaseRanges", laid_unicode_CaseRanges), ("unicode/utf8.first", laid_unicode_utf8_first)] }
def JtextTilesSaid : Prop := jtextTilesRow.holds Tryd.pinned (OpenSpec.ofChange jtextTilesSpec)

/-- ITS FALSE NEIGHBOUR: 'it returns false'. Refute it at one input. -/
def jtextTilesWrong : ChangeSpec := { name := "jtextTiles", fn := fun _ => fun
  | [d] => { results := [.lit (.bool false)], args := [d] }
  | _ => none }
def JtextTilesWrongFalsely : Prop := jtextTilesRow.holds Tryd.pinned (OpenSpec.ofChange jtextTilesWrong)

/-- 'emendlaw03.JtextLoose': WHATEVER THE INPUT: true; the input reads as it did. -/
def jtextLooseSpec : ChangeSpec := { name := "jtextLoose", fn := fun _ => fun
  | [d1, d2] => { results := [.lit (.bool true)], args := [d1, d2] }
  | _ => none }
def jtextLooseRow : OpenClaim := { program := "ytphiceebhncflaadoor", sum := "a97b17fcbb6cdd8be827a266c7731041733ef04c1c9cfab015c4fef9ad02ecfe", func := "emend/emendlaw03.JtextLoose", spec := "jtextLoose", inPlace := ["internal/bytealg.IndexByteString", "internal/bytealg.IndexString", "internal/abi.NoEscape", "internal/bytealg.MakeNoZero"], unfollowed := true, recurses := true, named := ["unicode/utf8.first", "unicode/utf8.acceptRanges", "unicode.CaseRanges", "internal/bytealg.MaxLen"], apart := false, laid := [("unicode/utf8.acceptRanges", laid_unicode_utf8_acceptRanges), ("unicode.CaseRanges", laid_unicode_CaseRanges), ("unicode/utf8.first", laid_unicode_utf8_first)] }
def JtextLooseSaid : Prop := jtextLooseRow.holds Tryd.pinned (OpenSpec.ofChange jtextLooseSpec)

/-- ITS FALSE NEIGHBOUR: 'it returns false'. Refute it at one input. -/
def jtextLooseWrong : ChangeSpec := { name := "jtextLoose", fn := fun _ => fun
  | [d1, d2] => { results := [.lit (.bool false)], args := [d1, d2] }
  | _ => none }
def JtextLooseWrongFalsely : Prop := jtextLooseRow.holds Tryd.pinned (OpenSpec.ofChange jtextLooseWrong)

/-- 'emendlaw03.JtextQuotes': WHATEVER THE INPUT: true; the input reads as it did. -/
def jtextQuotesSpec : ChangeSpec := { name := "jtextQuotes", fn := fun _ => fun
  | [d] => { results := [.lit (.bool true)], args := [d] }
  | _ => none }
def jtextQuotesRow : OpenClaim := { program := "ytphiceebhncflaadoor", sum := "a97b17fcbb6cdd8be827a266c7731041733ef04c1c9cfab015c4fef9ad02ecfe", func := "emend/emendlaw03.JtextQuotes", spec := "jtextQuotes", inPlace := ["internal/abi.NoEscape", "internal/bytealg.IndexByteString", "internal/bytealg.IndexString", "internal/bytealg.MakeNoZero"], unfollowed := true, recurses := true, named := ["unicode/utf8.first", "unicode/utf8.acceptRanges", "unicode.CaseRanges", "internal/bytealg.MaxLen"], apart := false, laid := [("unicode/utf8.acceptRanges", laid_unicode_utf8_acceptRanges), ("unicode.CaseRanges", laid_unicode_CaseRanges), ("unicode/utf8.first", laid_unicode_utf8_first)] }
def JtextQuotesSaid : Prop := jtextQuotesRow.holds Tryd.pinned (OpenSpec.ofChange jtextQuotesSpec)

/-- ITS FALSE NEIGHBOUR: 'it returns false'. Refute it at one input. -/
def jtextQuotesWrong : ChangeSpec := { name := "jtextQuotes", fn := fun _ => fun
  | [d] => { results := [.lit (.bool false)], args := [d] }
  | _ => none }
def JtextQuotesWrongFalsely : Prop := jtextQuotesRow.holds Tryd.pinned (OpenSpec.ofChange jtextQuotesWrong)

/-- 'emendlaw03.JtextKnown': WHATEVER THE INPUT: true; the input reads as it did. -/
def jtextKnownSpec : ChangeSpec := { name := "jtextKnown", fn := fun _ => fun
  | [] => { results := [.lit (.bool true)], args := [] }
  | _ => none }
def jtextKnownRow : OpenClaim := { program := "ytphiceebhncflaadoor", sum := "a97b17fcbb6cdd8be827a266c7731041733ef04c1c9cfab015c4fef9ad02ecfe", func := "emend/emendlaw03.JtextKnown", spec := "jtextKnown", inPlace := ["internal/bytealg.IndexByteString", "internal/bytealg.IndexString", "internal/abi.NoEscape", "internal/bytealg.MakeNoZero"], unfollowed := true, recurses := true, named := ["unicode/utf8.first", "unicode/utf8.acceptRanges", "unicode.CaseRanges", "internal/bytealg.MaxLen"], apart := false, laid := [("unicode/utf8.acceptRanges", laid_unicode_utf8_acceptRanges), ("unicode.CaseRanges", laid_unicode_CaseRanges), ("unicode/utf8.first", laid_unicode_utf8_first)] }
def JtextKnownSaid : Prop := jtextKnownRow.holds Tryd.pinned (OpenSpec.ofChange jtextKnownSpec)

/-- ITS FALSE NEIGHBOUR: 'it returns false'. Refute it at one input. -/
def jtextKnownWrong : ChangeSpec := { name := "jtextKnown", fn := fun _ => fun
  | [] => { results := [.lit (.bool false)], args := [] }
  | _ => none }
def JtextKnownWrongFalsely : Prop := jtextKnownRow.holds Tryd.pinned (OpenSpec.ofChange jtextKnownWrong)

/-- 'emendlaw03.JtextBack': WHATEVER THE INPUT: true; the input reads as it did. -/
def jtextBackSpec : ChangeSpec := { name := "jtextBack", fn := fun _ => fun
  | [d] => { results := [.lit (.bool true)], args := [d] }
  | _ => none }
def jtextBackRow : OpenClaim := { program := "ytphiceebhncflaadoor", sum := "a97b17fcbb6cdd8be827a266c7731041733ef04c1c9cfab015c4fef9ad02ecfe", func := "emend/emendlaw03.JtextBack", spec := "jtextBack", inPlace := ["internal/abi.NoEscape", "internal/bytealg.IndexByteString", "internal/bytealg.IndexString", "internal/bytealg.MakeNoZero"], unfollowed := true, recurses := true, named := ["unicode/utf8.first", "unicode/utf8.acceptRanges", "unicode.CaseRanges", "internal/bytealg.MaxLen"], apart := false, laid := [("unicode/utf8.acceptRanges", laid_unicode_utf8_acceptRanges), ("unicode.CaseRanges", laid_unicode_CaseRanges), ("unicode/utf8.first", laid_unicode_utf8_first)] }
def JtextBackSaid : Prop := jtextBackRow.holds Tryd.pinned (OpenSpec.ofChange jtextBackSpec)

/-- ITS FALSE NEIGHBOUR: 'it returns false'. Refute it at one input. -/
def jtextBackWrong : ChangeSpec := { name := "jtextBack", fn := fun _ => fun
  | [d] => { results := [.lit (.bool false)], args := [d] }
  | _ => none }
def JtextBackWrongFalsely : Prop := jtextBackRow.holds Tryd.pinned (OpenSpec.ofChange jtextBackWrong)

/-- 'emendlaw04.JsonSays': WHATEVER THE INPUT: true; the input reads as it did. -/
def jsonSaysSpec : ChangeSpec := { name := "jsonSays", fn := fun _ => fun
  | [d] => { results := [.lit (.bool true)], args := [d] }
  | _ => none }
def jsonSaysRow : OpenClaim := { program := "ytphiceebhncflaadoor", sum := "a97b17fcbb6cdd8be827a266c7731041733ef04c1c9cfab015c4fef9ad02ecfe", func := "emend/emendlaw04.JsonSays", spec := "jsonSays", inPlace := ["internal/bytealg.IndexByteString", "internal/bytealg.IndexString", "internal/abi.NoEscape", "internal/bytealg.MakeNoZero"], unfollowed := true, recurses := true, named := ["unicode/utf8.first", "unicode/utf8.acceptRanges", "unicode.CaseRanges", "internal/bytealg.MaxLen"], apart := false, laid := [("unicode/utf8.acceptRanges", laid_unicode_utf8_acceptRanges), ("unicode.CaseRanges", laid_unicode_CaseRanges), ("unicode/utf8.first", laid_unicode_utf8_first)] }
def JsonSaysSaid : Prop := jsonSaysRow.holds Tryd.pinned (OpenSpec.ofChange jsonSaysSpec)

/-- ITS FALSE NEIGHBOUR: 'it returns false'. Refute it at one input. -/
def jsonSaysWrong : ChangeSpec := { name := "jsonSays", fn := fun _ => fun
  | [d] => { results := [.lit (.bool false)], args := [d] }
  | _ => none }
def JsonSaysWrongFalsely : Prop := jsonSaysRow.holds Tryd.pinned (OpenSpec.ofChange jsonSaysWrong)

/-- 'emendlaw04.JsonBlanks': WHATEVER THE INPUT: true; the input reads as it did. -/
def jsonBlanksSpec : ChangeSpec := { name := "jsonBlanks", fn := fun _ => fun
  | [d1, d2] => { results := [.lit (.bool true)], args := [d1, d2] }
  | _ => none }
def jsonBlanksRow : OpenClaim := { program := "ytphiceebhncflaadoor", sum := "a97b17fcbb6cdd8be827a266c7731041733ef04c1c9cfab015c4fef9ad02ecfe", func := "emend/emendlaw04.JsonBlanks", spec := "jsonBlanks", inPlace := ["internal/bytealg.IndexByteString", "internal/bytealg.IndexString", "internal/abi.NoEscape", "internal/bytealg.MakeNoZero"], unfollowed := true, recurses := true, named := ["unicode/utf8.first", "unicode/utf8.acceptRanges", "unicode.CaseRanges", "internal/bytealg.MaxLen"], loops := true, apart := false, laid := [("unicode/utf8.acceptRanges", laid_unicode_utf8_acceptRanges), ("unicode.CaseRanges", laid_unicode_CaseRanges), ("unicode/utf8.first", laid_unicode_utf8_first)] }
def JsonBlanksSaid : Prop := jsonBlanksRow.holds Tryd.pinned (OpenSpec.ofChange jsonBlanksSpec)

/-- ITS FALSE NEIGHBOUR: 'it returns false'. Refute it at one input. -/
def jsonBlanksWrong : ChangeSpec := { name := "jsonBlanks", fn := fun _ => fun
  | [d1, d2] => { results := [.lit (.bool false)], args := [d1, d2] }
  | _ => none }
def JsonBlanksWrongFalsely : Prop := jsonBlanksRow.holds Tryd.pinned (OpenSpec.ofChange jsonBlanksWrong)

/-- 'emendlaw04.JsonBack': WHATEVER THE INPUT: true; the input reads as it did. -/
def jsonBackSpec : ChangeSpec := { name := "jsonBack", fn := fun _ => fun
  | [d] => { results := [.lit (.bool true)], args := [d] }
  | _ => none }
def jsonBackRow : OpenClaim := { program := "ytphiceebhncflaadoor", sum := "a97b17fcbb6cdd8be827a266c7731041733ef04c1c9cfab015c4fef9ad02ecfe", func := "emend/emendlaw04.JsonBack", spec := "jsonBack", inPlace := ["internal/bytealg.IndexByteString", "internal/bytealg.IndexString", "internal/abi.NoEscape", "internal/bytealg.MakeNoZero"], unfollowed := true, recurses := true, named := ["unicode/utf8.first", "unicode/utf8.acceptRanges", "unicode.CaseRanges", "internal/bytealg.MaxLen"], loops := true, apart := false, laid := [("unicode/utf8.acceptRanges", laid_unicode_utf8_acceptRanges), ("unicode.CaseRanges", laid_unicode_CaseRanges), ("unicode/utf8.first", laid_unicode_utf8_first)] }
def JsonBackSaid : Prop := jsonBackRow.holds Tryd.pinned (OpenSpec.ofChange jsonBackSpec)

/-- ITS FALSE NEIGHBOUR: 'it returns false'. Refute it at one input. -/
def jsonBackWrong : ChangeSpec := { name := "jsonBack", fn := fun _ => fun
  | [d] => { results := [.lit (.bool false)], args := [d] }
  | _ => none }
def JsonBackWrongFalsely : Prop := jsonBackRow.holds Tryd.pinned (OpenSpec.ofChange jsonBackWrong)

/-- 'emendlaw04.JsonOrder': WHATEVER THE INPUT: true; the input reads as it did. -/
def jsonOrderSpec : ChangeSpec := { name := "jsonOrder", fn := fun _ => fun
  | [d1, d2, d3] => { results := [.lit (.bool true)], args := [d1, d2, d3] }
  | _ => none }
def jsonOrderRow : OpenClaim := { program := "ytphiceebhncflaadoor", sum := "a97b17fcbb6cdd8be827a266c7731041733ef04c1c9cfab015c4fef9ad02ecfe", func := "emend/emendlaw04.JsonOrder", spec := "jsonOrder", inPlace := ["internal/bytealg.IndexByteString", "internal/bytealg.IndexString", "internal/abi.NoEscape", "internal/bytealg.MakeNoZero"], unfollowed := true, recurses := true, named := ["unicode/utf8.first", "unicode/utf8.acceptRanges", "unicode.CaseRanges", "internal/bytealg.MaxLen"], loops := true, apart := false, laid := [("unicode/utf8.acceptRanges", laid_unicode_utf8_acceptRanges), ("unicode.CaseRanges", laid_unicode_CaseRanges), ("unicode/utf8.first", laid_unicode_utf8_first)] }
def JsonOrderSaid : Prop := jsonOrderRow.holds Tryd.pinned (OpenSpec.ofChange jsonOrderSpec)

/-- ITS FALSE NEIGHBOUR: 'it returns false'. Refute it at one input. -/
def jsonOrderWrong : ChangeSpec := { name := "jsonOrder", fn := fun _ => fun
  | [d1, d2, d3] => { results := [.lit (.bool false)], args := [d1, d2, d3] }
  | _ => none }
def JsonOrderWrongFalsely : Prop := jsonOrderRow.holds Tryd.pinned (OpenSpec.ofChange jsonOrderWrong)

/- THE SECOND FORM. 'bulk': how many values and letters a reading holds, each counted each time it is reached (what is shared counts as often as it is met; a slice's spare places count too). A statement '..UptoSaid' is the law's where the arguments, and the package variables that the reading takes, are together of bulk at most 1048576: NARROWER than '..Said'. Prove '..Said' where nothing that the law and all that it calls make is longer than what came in: it says more and counts as full. Else prove '..UptoSaid'. A law counts once. -/
mutual
def uptoBulk {H : Type} : DataW H → Nat
  | .lit (.string bytes) => bytes.length + 1
  | .lit _ => 1
  | .nil => 1
  | .ptr d => uptoBulk d + 1
  | .slice elems spare => uptoBulkAll elems + uptoBulkAll spare + 1
  | .agg parts => uptoBulkAll parts + 1
  | .iface _ d => uptoBulk d + 1
  | .map entries => uptoBulkEntries entries + 1
  | .held _ => 1
def uptoBulkAll {H : Type} : List (DataW H) → Nat
  | [] => 0
  | d :: r => uptoBulk d + uptoBulkAll r
def uptoBulkEntries {H : Type} : List (Lit × DataW H) → Nat
  | [] => 0
  | x :: r => uptoBulkEntry x + uptoBulkEntries r
def uptoBulkEntry {H : Type} : Lit × DataW H → Nat
  | (.string bytes, d) => bytes.length + uptoBulk d + 1
  | (_, d) => uptoBulk d + 1
 end
def uptoSmall : (H : Type) → List (DataW H) → Bool := fun _ ds => decide (uptoBulkAll ds ≤ 1048576)
def OpenSpec.upto (s : _root_.Go.ChangeSpec) : _root_.Go.OpenSpec := { _root_.Go.OpenSpec.ofChange s with cond := some uptoSmall }

/-- 'emendlaw03.JtextTokens', WHERE WHAT IT READS IS OF BULK AT MOST 1048576: true; the input reads as it did. -/
def jtextTokensUptoRow : OpenClaim := { program := "ytphiceebhncflaadoor", sum := "a97b17fcbb6cdd8be827a266c7731041733ef04c1c9cfab015c4fef9ad02ecfe", func := "emend/emendlaw03.JtextTokens", spec := "jtextTokens", inPlace := ["internal/bytealg.IndexByteString", "internal/bytealg.IndexString", "internal/abi.NoEscape", "internal/bytealg.MakeNoZero"], unfollowed := true, recurses := true, named := ["unicode/utf8.first", "unicode/utf8.acceptRanges", "unicode.CaseRanges", "internal/bytealg.MaxLen"], apart := false, laid := [("unicode/utf8.acceptRanges", laid_unicode_utf8_acceptRanges), ("unicode.CaseRanges", laid_unicode_CaseRanges), ("unicode/utf8.first", laid_unicode_utf8_first)], narrowed := true }
def JtextTokensUptoSaid : Prop := jtextTokensUptoRow.holds Tryd.pinned (OpenSpec.upto jtextTokensSpec)

/-- 'emendlaw03.JtextTiles', WHERE WHAT IT READS IS OF BULK AT MOST 1048576: true; the input reads as it did. -/
def jtextTilesUptoRow : OpenClaim := { program := "ytphiceebhncflaadoor", sum := "a97b17fcbb6cdd8be827a266c7731041733ef04c1c9cfab015c4fef9ad02ecfe", func := "emend/emendlaw03.JtextTiles", spec := "jtextTiles", inPlace := ["internal/bytealg.IndexByteString", "internal/bytealg.IndexString", "internal/abi.NoEscape", "internal/bytealg.MakeNoZero"], unfollowed := true, recurses := true, named := ["unicode/utf8.first", "unicode/utf8.acceptRanges", "unicode.CaseRanges", "internal/bytealg.MaxLen"], apart := false, laid := [("unicode/utf8.acceptRanges", laid_unicode_utf8_acceptRanges), ("unicode.CaseRanges", laid_unicode_CaseRanges), ("unicode/utf8.first", laid_unicode_utf8_first)], narrowed := true }
def JtextTilesUptoSaid : Prop := jtextTilesUptoRow.holds Tryd.pinned (OpenSpec.upto jtextTilesSpec)

/-- 'emendlaw03.JtextLoose', WHERE WHAT IT READS IS OF BULK AT MOST 1048576: true; the input reads as it did. -/
def jtextLooseUptoRow : OpenClaim := { program := "ytphiceebhncflaadoor", sum := "a97b17fcbb6cdd8be827a266c7731041733ef04c1c9cfab015c4fef9ad02ecfe", func := "emend/emendlaw03.JtextLoose", spec := "jtextLoose", inPlace := ["internal/bytealg.IndexByteString", "internal/bytealg.IndexString", "internal/abi.NoEscape", "internal/bytealg.MakeNoZero"], unfollowed := true, recurses := true, named := ["unicode/utf8.first", "unicode/utf8.acceptRanges", "unicode.CaseRanges", "internal/bytealg.MaxLen"], apart := false, laid := [("unicode/utf8.acceptRanges", laid_unicode_utf8_acceptRanges), ("unicode.CaseRanges", laid_unicode_CaseRanges), ("unicode/utf8.first", laid_unicode_utf8_first)], narrowed := true }
def JtextLooseUptoSaid : Prop := jtextLooseUptoRow.holds Tryd.pinned (OpenSpec.upto jtextLooseSpec)

/-- 'emendlaw03.JtextQuotes', WHERE WHAT IT READS IS OF BULK AT MOST 1048576: true; the input reads as it did. -/
def jtextQuotesUptoRow : OpenClaim := { program := "ytphiceebhncflaadoor", sum := "a97b17fcbb6cdd8be827a266c7731041733ef04c1c9cfab015c4fef9ad02ecfe", func := "emend/emendlaw03.JtextQuotes", spec := "jtextQuotes", inPlace := ["internal/abi.NoEscape", "internal/bytealg.IndexByteString", "internal/bytealg.IndexString", "internal/bytealg.MakeNoZero"], unfollowed := true, recurses := true, named := ["unicode/utf8.first", "unicode/utf8.acceptRanges", "unicode.CaseRanges", "internal/bytealg.MaxLen"], apart := false, laid := [("unicode/utf8.acceptRanges", laid_unicode_utf8_acceptRanges), ("unicode.CaseRanges", laid_unicode_CaseRanges), ("unicode/utf8.first", laid_unicode_utf8_first)], narrowed := true }
def JtextQuotesUptoSaid : Prop := jtextQuotesUptoRow.holds Tryd.pinned (OpenSpec.upto jtextQuotesSpec)

/-- 'emendlaw03.JtextKnown', WHERE WHAT IT READS IS OF BULK AT MOST 1048576: true; the input reads as it did. -/
def jtextKnownUptoRow : OpenClaim := { program := "ytphiceebhncflaadoor", sum := "a97b17fcbb6cdd8be827a266c7731041733ef04c1c9cfab015c4fef9ad02ecfe", func := "emend/emendlaw03.JtextKnown", spec := "jtextKnown", inPlace := ["internal/bytealg.IndexByteString", "internal/bytealg.IndexString", "internal/abi.NoEscape", "internal/bytealg.MakeNoZero"], unfollowed := true, recurses := true, named := ["unicode/utf8.first", "unicode/utf8.acceptRanges", "unicode.CaseRanges", "internal/bytealg.MaxLen"], apart := false, laid := [("unicode/utf8.acceptRanges", laid_unicode_utf8_acceptRanges), ("unicode.CaseRanges", laid_unicode_CaseRanges), ("unicode/utf8.first", laid_unicode_utf8_first)], narrowed := true }
def JtextKnownUptoSaid : Prop := jtextKnownUptoRow.holds Tryd.pinned (OpenSpec.upto jtextKnownSpec)

/-- 'emendlaw03.JtextBack', WHERE WHAT IT READS IS OF BULK AT MOST 1048576: true; the input reads as it did. -/
def jtextBackUptoRow : OpenClaim := { program := "ytphiceebhncflaadoor", sum := "a97b17fcbb6cdd8be827a266c7731041733ef04c1c9cfab015c4fef9ad02ecfe", func := "emend/emendlaw03.JtextBack", spec := "jtextBack", inPlace := ["internal/abi.NoEscape", "internal/bytealg.IndexByteString", "internal/bytealg.IndexString", "internal/bytealg.MakeNoZero"], unfollowed := true, recurses := true, named := ["unicode/utf8.first", "unicode/utf8.acceptRanges", "unicode.CaseRanges", "internal/bytealg.MaxLen"], apart := false, laid := [("unicode/utf8.acceptRanges", laid_unicode_utf8_acceptRanges), ("unicode.CaseRanges", laid_unicode_CaseRanges), ("unicode/utf8.first", laid_unicode_utf8_first)], narrowed := true }
def JtextBackUptoSaid : Prop := jtextBackUptoRow.holds Tryd.pinned (OpenSpec.upto jtextBackSpec)

/-- 'emendlaw04.JsonSays', WHERE WHAT IT READS IS OF BULK AT MOST 1048576: true; the input reads as it did. -/
def jsonSaysUptoRow : OpenClaim := { program := "ytphiceebhncflaadoor", sum := "a97b17fcbb6cdd8be827a266c7731041733ef04c1c9cfab015c4fef9ad02ecfe", func := "emend/emendlaw04.JsonSays", spec := "jsonSays", inPlace := ["internal/bytealg.IndexByteString", "internal/bytealg.IndexString", "internal/abi.NoEscape", "internal/bytealg.MakeNoZero"], unfollowed := true, recurses := true, named := ["unicode/utf8.first", "unicode/utf8.acceptRanges", "unicode.CaseRanges", "internal/bytealg.MaxLen"], apart := false, laid := [("unicode/utf8.acceptRanges", laid_unicode_utf8_acceptRanges), ("unicode.CaseRanges", laid_unicode_CaseRanges), ("unicode/utf8.first", laid_unicode_utf8_first)], narrowed := true }
def JsonSaysUptoSaid : Prop := jsonSaysUptoRow.holds Tryd.pinned (OpenSpec.upto jsonSaysSpec)

/-- 'emendlaw04.JsonBlanks', WHERE WHAT IT READS IS OF BULK AT MOST 1048576: true; the input reads as it did. -/
def jsonBlanksUptoRow : OpenClaim := { program := "ytphiceebhncflaadoor", sum := "a97b17fcbb6cdd8be827a266c7731041733ef04c1c9cfab015c4fef9ad02ecfe", func := "emend/emendlaw04.JsonBlanks", spec := "jsonBlanks", inPlace := ["internal/bytealg.IndexByteString", "internal/bytealg.IndexString", "internal/abi.NoEscape", "internal/bytealg.MakeNoZero"], unfollowed := true, recurses := true, named := ["unicode/utf8.first", "unicode/utf8.acceptRanges", "unicode.CaseRanges", "internal/bytealg.MaxLen"], loops := true, apart := false, laid := [("unicode/utf8.acceptRanges", laid_unicode_utf8_acceptRanges), ("unicode.CaseRanges", laid_unicode_CaseRanges), ("unicode/utf8.first", laid_unicode_utf8_first)], narrowed := true }
def JsonBlanksUptoSaid : Prop := jsonBlanksUptoRow.holds Tryd.pinned (OpenSpec.upto jsonBlanksSpec)

/-- 'emendlaw04.JsonBack', WHERE WHAT IT READS IS OF BULK AT MOST 1048576: true; the input reads as it did. -/
def jsonBackUptoRow : OpenClaim := { program := "ytphiceebhncflaadoor", sum := "a97b17fcbb6cdd8be827a266c7731041733ef04c1c9cfab015c4fef9ad02ecfe", func := "emend/emendlaw04.JsonBack", spec := "jsonBack", inPlace := ["internal/bytealg.IndexByteString", "internal/bytealg.IndexString", "internal/abi.NoEscape", "internal/bytealg.MakeNoZero"], unfollowed := true, recurses := true, named := ["unicode/utf8.first", "unicode/utf8.acceptRanges", "unicode.CaseRanges", "internal/bytealg.MaxLen"], loops := true, apart := false, laid := [("unicode/utf8.acceptRanges", laid_unicode_utf8_acceptRanges), ("unicode.CaseRanges", laid_unicode_CaseRanges), ("unicode/utf8.first", laid_unicode_utf8_first)], narrowed := true }
def JsonBackUptoSaid : Prop := jsonBackUptoRow.holds Tryd.pinned (OpenSpec.upto jsonBackSpec)

/-- 'emendlaw04.JsonOrder', WHERE WHAT IT READS IS OF BULK AT MOST 1048576: true; the input reads as it did. -/
def jsonOrderUptoRow : OpenClaim := { program := "ytphiceebhncflaadoor", sum := "a97b17fcbb6cdd8be827a266c7731041733ef04c1c9cfab015c4fef9ad02ecfe", func := "emend/emendlaw04.JsonOrder", spec := "jsonOrder", inPlace := ["internal/bytealg.IndexByteString", "internal/bytealg.IndexString", "internal/abi.NoEscape", "internal/bytealg.MakeNoZero"], unfollowed := true, recurses := true, named := ["unicode/utf8.first", "unicode/utf8.acceptRanges", "unicode.CaseRanges", "internal/bytealg.MaxLen"], loops := true, apart := false, laid := [("unicode/utf8.acceptRanges", laid_unicode_utf8_acceptRanges), ("unicode.CaseRanges", laid_unicode_CaseRanges), ("unicode/utf8.first", laid_unicode_utf8_first)], narrowed := true }
def JsonOrderUptoSaid : Prop := jsonOrderUptoRow.holds Tryd.pinned (OpenSpec.upto jsonOrderSpec)

end Rows
end Go.Proofs.YtphiceebhncflaaDoor
