/- What the rows of this seat list; a world for the witness, laid by the kit's own law. -/
import Derived.Test.YtcenfckjkboabaaGreatDoorGC
import Derived.Test.YtcenfckjkboabaaGreatDoorCards
import Derived.Lib.LaidU8T
import Derived.Lib.LaidTab
import Derived.Lay
import Derived.PinnedBridge
import Derived.ProofKit
namespace Go.Proofs.YtcenfckjkboabaaGreatDoor
open Go.ChangeShapes Go.WideShapes Go.ChangeAt Go.RowKit Go.Proofs.Dc

def laidList : List (String × DataW Unit) := Rows.docsPlaysRow.laid
noncomputable def laidWorld (os : Os) : World := World.laidAll Tryz.prog os laidList
theorem laid_met_any (os : Os) (args : Array Value) : laidMetH Tryz.prog laidList ((laidWorld os).forCall (fun _ _ => 0) ⟨#[], args, []⟩).memory :=
  laidMet_laidAll args (by kernel_rfl) (by kernel_rfl)
theorem acc_same : (Rows.laid_unicode_utf8_acceptRanges : DataW Unit) = Lib.acceptData := by kernel_rfl
theorem first_same : Rows.laid_unicode_utf8_first = Lib.firstData := Pinned.utf8First_eq
theorem space_same : (Rows.laid_strings_asciiSpace : DataW Unit) = Lib.tabData .u8 Lib.asciiSpaceTab := by kernel_rfl
theorem tabs_of_laid {W : World} (h : laidMetH Tryz.prog laidList W) (hsh : W.ShapedOpen Tryz.prog) : Tabs W := by
  refine ⟨?_, ?_, ?_, ?_⟩
  · obtain ⟨m, hm⟩ := Tryz.laysM145.s1_3 W hsh
    exact ⟨m, hm⟩
  · obtain ⟨g', t', cs, fuel, p, hg', ht', hvar, hd⟩ := Lib.laidMet.reads (n := "strings.asciiSpace") h (.tail _ (.tail _ (.head _)))
    obtain rfl : g' = 0 := (Option.some.inj ((show Tryz.prog.globalNamed "strings.asciiSpace" = some 0 by kernel_rfl).symm.trans hg')).symm
    obtain ⟨tt, hty, hun⟩ : ∃ tt, (Tryz.prog.globals[0]?).map (·.type) = some tt ∧ ∃ e, Tryz.prog.underlying tt = some (.array 256 e) ∧ Tryz.prog.underlying e = some (.int .u8) ∧ Tryz.prog.cellsOf e = 1 ∧ Tryz.prog.cellsOf tt = 256 := ⟨_, rfl, 5, by kernel_rfl, by kernel_rfl, by kernel_rfl, by kernel_rfl⟩
    obtain ⟨e, hu, he, hce, hct⟩ := hun
    obtain rfl := Option.some.inj (hty.symm.trans ht')
    rw [space_same] at hd
    show Lib.TabIs Tryz.prog W "strings.asciiSpace" .u8 Lib.asciiSpaceTab
    unfold Lib.TabIs
    rw [hvar, ← Lib.cells_of_tab hu he hce hct hd]
  · have h' : laidMet Tryz.prog [("unicode/utf8.acceptRanges", Lib.acceptData), ("unicode.White_Space", Rows.laid_unicode_White_Space), ("strings.asciiSpace", Rows.laid_strings_asciiSpace), ("unicode/utf8.first", Lib.firstData)] W := by
      rw [← acc_same, ← first_same]
      exact h
    exact utf8Tabs_of_readsT (ρ := Tryz.laysValid_ren) { Tryz.laysValid with } ⟨by kernel_rfl, by kernel_rfl, by kernel_rfl, by kernel_rfl, by kernel_rfl, by kernel_rfl, by kernel_rfl⟩ (Lib.laidMet.reads h' (.tail _ (.tail _ (.tail _ (.head _))))) (Lib.laidMet.reads h' (.head _))
  · obtain ⟨⟨z, t⟩, hzt⟩ := Option.isSome_iff_exists.1 (show (((begin Tryz.prog (fun _ _ => 0) default).world.heap[5]?).bind Obj.row?).isSome = true by kernel_rfl)
    obtain ⟨cs, hcs, _⟩ := hsh.1 5 z t (of_decide_eq_true (by kernel_rfl)) hzt
    exact (Array.getElem?_eq_some_iff.1 hcs).1
end Go.Proofs.YtcenfckjkboabaaGreatDoor
