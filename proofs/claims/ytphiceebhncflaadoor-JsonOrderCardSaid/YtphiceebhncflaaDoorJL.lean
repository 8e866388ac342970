/- What the rows of this seat list: the tables of unicode/utf8 and unicode.CaseRanges, as the contracts ask for them; a world for the witness. -/
import Derived.Test.YtphiceebhncflaaDoorJ1
import Derived.Test.YtphiceebhncflaaDoorCards
import Derived.Lib.LaidU8
import Derived.Lib.LaidIn
import Derived.Lib.LaidCase
import Derived.Great.CaseRows
import Derived.PinnedBridge
import Derived.ProofKit
namespace Go.Proofs.YtphiceebhncflaaDoor
open Go.ChangeShapes Go.WideShapes Go.ChangeAt Go.RowKit Go.Proofs.Jt

theorem acc_same : (Rows.laid_unicode_utf8_acceptRanges : DataW Unit) = Lib.acceptData := by kernel_rfl
theorem first_same : Rows.laid_unicode_utf8_first = Lib.firstData := Pinned.utf8First_eq
theorem case_same : Rows.laid_unicode_CaseRanges = Lib.caseData := Pinned.caseRanges_eq
def laidList : List (String × DataW Unit) := [("unicode/utf8.acceptRanges", Rows.laid_unicode_utf8_acceptRanges), ("unicode.CaseRanges", Rows.laid_unicode_CaseRanges), ("unicode/utf8.first", Rows.laid_unicode_utf8_first)]
theorem tabs_of_laid {W : World} (h : laidMetH Tryd.prog laidList W) : Tabs W := by
  have h' : laidMet Tryd.prog [("unicode/utf8.acceptRanges", Lib.acceptData), ("unicode.CaseRanges", Lib.caseData), ("unicode/utf8.first", Lib.firstData)] W := by
    rw [← acc_same, ← first_same, ← case_same]
    exact h
  refine ⟨utf8Tabs_of_reads Tryd.lays260 ⟨by kernel_rfl, by kernel_rfl, by kernel_rfl, by kernel_rfl, by kernel_rfl, by kernel_rfl, by kernel_rfl⟩ (Lib.laidMet.reads h' (.tail _ (.tail _ (.head _)))) (Lib.laidMet.reads h' (.head _)), ?_⟩
  exact caseVar_of_reads (ρ := Tryd.lays204_ren) { Tryd.lays204 with } Tryd.lays204.t206 ⟨by kernel_rfl, by kernel_rfl, by kernel_rfl, by kernel_rfl, by kernel_rfl, by kernel_rfl⟩ (Lib.laidMet.reads h' (.tail _ (.head _)))

noncomputable def laidWorld (os : Os) : World :=
  let N := (World.settled Tryd.prog os).heap.size
  let w0 := World.holding Tryd.prog os ⟨#[.cells Lib.caseCells5 141], #[], []⟩
  let put (h : Array Obj) (g : Nat) (cs : Array Value) : Array Obj := h.modify g fun
    | .cells _ t frozen => .cells cs t frozen
    | o => o
  let h1 := put w0.heap 0 (Lib.firstTab.map fun z => Value.int .u8 z).toArray
  let h2 := put h1 1 ((List.range 16).flatMap fun i => [Value.int .u8 (Lib.accLo i), Value.int .u8 (Lib.accHi i)]).toArray
  let h3 := put h2 3 #[.slice (some ⟨N, 0, none⟩) 336 336]
  { w0 with heap := h3 }
theorem laid_met_any (os : Os) (args : Array Value) : laidMetH Tryd.prog laidList ((laidWorld os).forCall (fun _ _ => 0) ⟨#[], args, []⟩).memory := by
  have a1 : LaidIn Tryd.prog ((laidWorld os).forCall (fun _ _ => 0) ⟨#[], args, []⟩).memory [("unicode/utf8.acceptRanges", Lib.acceptData)] [1] :=
    LaidIn.of_run (l := [("unicode/utf8.acceptRanges", Lib.acceptData)]) [1] 8 (by kernel_rfl) (by kernel_rfl) (by kernel_rfl) (by kernel_rfl)
  have a2 : LaidIn Tryd.prog ((laidWorld os).forCall (fun _ _ => 0) ⟨#[], args, []⟩).memory [("unicode.CaseRanges", Lib.caseData)] [3, (World.settled Tryd.prog default).heap.size] :=
    Great.laidIn_case (P := Tryd.prog) (S := 134) (R := 141) (D := 139) (U := 118) (I := 21) ⟨by kernel_rfl, by kernel_rfl, by kernel_rfl, by kernel_rfl, by kernel_rfl, by kernel_rfl, by kernel_rfl, by kernel_rfl, by kernel_rfl⟩ (tg := 134) (tb := 141) Lib.caseT (by kernel_rfl) (by kernel_rfl) (by rw [show Lib.caseT.length = 336 by kernel_rfl]; unfold maxLen; omega) Lib.rowsWf (by kernel_rfl) (by kernel_rfl) (of_decide_eq_true (by kernel_rfl))
  have a3 : LaidIn Tryd.prog ((laidWorld os).forCall (fun _ _ => 0) ⟨#[], args, []⟩).memory [("unicode/utf8.first", Lib.firstData)] [0] :=
    LaidIn.of_run (l := [("unicode/utf8.first", Lib.firstData)]) [0] 8 (by kernel_rfl) (by kernel_rfl) (by kernel_rfl) (by kernel_rfl)
  have h := ((a1.append a2 (by kernel_rfl)).append a3 (by kernel_rfl)).met
  have h' : laidMet Tryd.prog [("unicode/utf8.acceptRanges", Lib.acceptData), ("unicode.CaseRanges", Lib.caseData), ("unicode/utf8.first", Lib.firstData)] ((laidWorld os).forCall (fun _ _ => 0) ⟨#[], args, []⟩).memory := h
  rw [← acc_same, ← first_same, ← case_same] at h'
  exact h'
end Go.Proofs.YtphiceebhncflaaDoor
