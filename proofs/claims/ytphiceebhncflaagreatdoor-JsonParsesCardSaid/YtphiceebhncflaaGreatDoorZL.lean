/- What the rows of JsonPuts and JsonParses list: the tables of unicode/utf8 and unicode.CaseRanges, as the contracts ask for them; a world for the witness, laid by the kit's own law. -/
import Derived.Test.YtphiceebhncflaaGreatDoorJ1
import Derived.Test.YtphiceebhncflaaGreatDoorCards
import Derived.Lib.LaidU8
import Derived.Lib.LaidIn
import Derived.Lib.LaidCase
import Derived.Great.CaseRows
import Derived.Lay
import Derived.PinnedBridge
import Derived.ProofKit
namespace Go.Proofs.YtphiceebhncflaaGreatDoor
open Go.ChangeShapes Go.WideShapes Go.ChangeAt Go.RowKit Go.Proofs.Jt

theorem acc_same : (Rows.laid_unicode_utf8_acceptRanges : DataW Unit) = Lib.acceptData := by kernel_rfl
theorem first_same : Rows.laid_unicode_utf8_first = Lib.firstData := Pinned.utf8First_eq
theorem case_same : Rows.laid_unicode_CaseRanges = Lib.caseData := Pinned.caseRanges_eq
def laidList : List (String × DataW Unit) := [("unicode/utf8.acceptRanges", Rows.laid_unicode_utf8_acceptRanges), ("unicode.CaseRanges", Rows.laid_unicode_CaseRanges), ("unicode/utf8.first", Rows.laid_unicode_utf8_first)]
theorem tabs_of_laid {W : World} (h : laidMetH Tryz.prog laidList W) : Tabs W := by
  have h' : laidMet Tryz.prog [("unicode/utf8.acceptRanges", Lib.acceptData), ("unicode.CaseRanges", Lib.caseData), ("unicode/utf8.first", Lib.firstData)] W := by
    rw [← acc_same, ← first_same, ← case_same]
    exact h
  refine ⟨utf8Tabs_of_reads Tryz.lays260 ⟨by kernel_rfl, by kernel_rfl, by kernel_rfl, by kernel_rfl, by kernel_rfl, by kernel_rfl, by kernel_rfl⟩ (Lib.laidMet.reads h' (.tail _ (.tail _ (.head _)))) (Lib.laidMet.reads h' (.head _)), ?_⟩
  exact caseVar_of_reads (ρ := Tryz.lays204_ren) { Tryz.lays204 with } Tryz.lays204.t206 ⟨by kernel_rfl, by kernel_rfl, by kernel_rfl, by kernel_rfl, by kernel_rfl, by kernel_rfl⟩ (Lib.laidMet.reads h' (.tail _ (.head _)))
noncomputable def laidWorld (os : Os) : World := World.laidAll Tryz.prog os laidList
theorem laid_met_any (os : Os) (args : Array Value) : laidMetH Tryz.prog laidList ((laidWorld os).forCall (fun _ _ => 0) ⟨#[], args, []⟩).memory :=
  laidMet_laidAll args (by kernel_rfl) (by kernel_rfl)
end Go.Proofs.YtphiceebhncflaaGreatDoor
