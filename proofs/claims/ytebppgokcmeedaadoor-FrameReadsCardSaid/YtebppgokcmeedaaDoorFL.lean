/- What the rows of this seat list; a world for the witness, laid by the kit's own law. -/
import Derived.Test.YtebppgokcmeedaaDoorF4
import Derived.Test.YtebppgokcmeedaaDoorCards
import Derived.Lib.LaidU8
import Derived.Lib.LaidTab
import Derived.Lay
import Derived.PinnedBridge
import Derived.ProofKit
namespace Go.Proofs.YtebppgokcmeedaaDoor
open Go.ChangeShapes Go.WideShapes Go.ChangeAt Go.RowKit Go.Proofs.Fr

def laidList : List (String × DataW Unit) := Rows.frameTakesRow.laid
noncomputable def laidWorld (os : Os) : World := World.laidAll Tryd.prog os laidList
theorem laid_met_any (os : Os) (args : Array Value) : laidMetH Tryd.prog laidList ((laidWorld os).forCall (fun _ _ => 0) ⟨#[], args, []⟩).memory :=
  laidMet_laidAll args (by kernel_rfl) (by kernel_rfl)

/-- What a row of this seat knows of the variables: MaxLen holds an int; the powers of ten are laid. -/
structure Tabs (W : World) : Prop where
  mx : MaxV W
  ten : Lib.TabIs Tryd.prog W "internal/strconv.uint64pow10" .u64 Lib.pow10Tab
theorem ten_same : (Rows.laid_internal_strconv_uint64pow10 : DataW Unit) = Lib.tabData .u64 Lib.pow10Tab := by kernel_rfl
theorem tabs_of_laid {W : World} (h : laidMetH Tryd.prog laidList W) (hsh : W.ShapedOpen Tryd.prog) : Tabs W := by
  refine ⟨?_, ?_⟩
  · obtain ⟨m, hm⟩ := Tryd.laysM143.s1_3 W hsh
    exact ⟨m, hm⟩
  · obtain ⟨g', t', cs, fuel, p, hg', ht', hvar, hd⟩ := Lib.laidMet.reads (n := "internal/strconv.uint64pow10") h (.tail _ (.tail _ (.head _)))
    obtain rfl : g' = 1 := (Option.some.inj ((show Tryd.prog.globalNamed "internal/strconv.uint64pow10" = some 1 by kernel_rfl).symm.trans hg')).symm
    obtain ⟨tt, hty, hun⟩ : ∃ tt, (Tryd.prog.globals[1]?).map (·.type) = some tt ∧ ∃ e, Tryd.prog.underlying tt = some (.array 20 e) ∧ Tryd.prog.underlying e = some (.int .u64) ∧ Tryd.prog.cellsOf e = 1 ∧ Tryd.prog.cellsOf tt = 20 := ⟨121, by kernel_rfl, 83, by kernel_rfl, by kernel_rfl, by kernel_rfl, by kernel_rfl⟩
    obtain ⟨e, hu, he, hce, hct⟩ := hun
    obtain rfl := Option.some.inj (hty.symm.trans ht')
    rw [ten_same] at hd
    unfold Lib.TabIs
    rw [hvar, ← Lib.cells_of_tab hu he hce hct hd]
end Go.Proofs.YtebppgokcmeedaaDoor
