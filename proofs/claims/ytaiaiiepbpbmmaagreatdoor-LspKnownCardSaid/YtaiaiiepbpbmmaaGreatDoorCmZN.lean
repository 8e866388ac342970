/- What the rows of this seat list, as the contracts ask for it; worlds for the witnesses, laid by the kit's own law. -/
import Derived.Test.YtaiaiiepbpbmmaaGreatDoorCmI2
import Derived.Test.YtaiaiiepbpbmmaaGreatDoorCards
import Derived.Lib.LaidU8
import Derived.Lib.LaidIn
import Derived.Lib.LaidCase
import Derived.Lib.LaidTab
import Derived.Great.CaseRows
import Derived.Lay
import Derived.PinnedBridge
import Derived.ProofKit
import Derived.RowKitTokens
namespace Go.Proofs.YtaiaiiepbpbmmaaGreatDoor
open Go.ChangeShapes Go.WideShapes Go.ChangeAt Go.RowKit Go.Proofs.Jt

theorem acc_same : (Rows.laid_unicode_utf8_acceptRanges : DataW Unit) = Lib.acceptData := by kernel_rfl
theorem first_same : Rows.laid_unicode_utf8_first = Lib.firstData := Pinned.utf8First_eq
theorem case_same : Rows.laid_unicode_CaseRanges = Lib.caseData := Pinned.caseRanges_eq
theorem ten_same : (Rows.laid_internal_strconv_uint64pow10 : DataW Unit) = Lib.tabData .u64 Lib.pow10Tab := by kernel_rfl
/-- what the contracts know of the variables -/
structure TabN (W : World) : Prop where
 tabs : Tabs W
 rng : ErrV W
 ten : Lib.TabIs Tryz.prog W "internal/strconv.uint64pow10" .u64 Lib.pow10Tab
theorem err_of_laid {W : World} {L : List (String × DataW Unit)} (h : laidMet Tryz.prog L W) (hm : ("strconv.ErrRange", (Rows.laid_strconv_ErrRange : DataW Unit)) ∈ L) : ErrV W := by
 obtain ⟨g, t, cs, fuel, p, hg, ht, hvar, hd⟩ := Lib.laidMet.reads (n := "strconv.ErrRange") h hm
 obtain rfl : g = 6 := (Option.some.inj ((show Tryz.prog.globalNamed "strconv.ErrRange" = some 6 by kernel_rfl).symm.trans hg)).symm
 obtain rfl : t = 145 := (Option.some.inj ((show (Tryz.prog.globals[6]?).map (·.type) = some 145 by kernel_rfl).symm.trans ht)).symm
 obtain ⟨f1, u, v, e, _⟩ := iface_of_trod Tryz.underlying145 hd
 obtain rfl : cs = #[.iface u v] := Array.toList_inj.1 e
 exact ⟨u, v, hvar⟩
theorem ten_of_laid {W : World} {L : List (String × DataW Unit)} (h : laidMet Tryz.prog L W) (hm : ("internal/strconv.uint64pow10", (Rows.laid_internal_strconv_uint64pow10 : DataW Unit)) ∈ L) : Lib.TabIs Tryz.prog W "internal/strconv.uint64pow10" .u64 Lib.pow10Tab := by
 obtain ⟨g', t', cs, fuel, p, hg', ht', hvar, hd⟩ := Lib.laidMet.reads (n := "internal/strconv.uint64pow10") h hm
 obtain rfl : g' = 7 := (Option.some.inj ((show Tryz.prog.globalNamed "internal/strconv.uint64pow10" = some 7 by kernel_rfl).symm.trans hg')).symm
 obtain ⟨tt, hty, e, hu, he, hce, hct⟩ : ∃ tt, (Tryz.prog.globals[7]?).map (·.type) = some tt ∧ ∃ e, Tryz.prog.underlying tt = some (.array 20 e) ∧ Tryz.prog.underlying e = some (.int .u64) ∧ Tryz.prog.cellsOf e = 1 ∧ Tryz.prog.cellsOf tt = 20 := ⟨294, by kernel_rfl, 242, by kernel_rfl, by kernel_rfl, by kernel_rfl, by kernel_rfl⟩
 obtain rfl := Option.some.inj (hty.symm.trans ht')
 rw [ten_same] at hd
 unfold Lib.TabIs
 rw [hvar, ← Lib.cells_of_tab hu he hce hct hd]
theorem tabs_of {W : World} {L : List (String × DataW Unit)} (h : laidMet Tryz.prog L W) (h1 : ("unicode/utf8.acceptRanges", (Rows.laid_unicode_utf8_acceptRanges : DataW Unit)) ∈ L) (h2 : ("unicode.CaseRanges", Rows.laid_unicode_CaseRanges) ∈ L) (h3 : ("unicode/utf8.first", Rows.laid_unicode_utf8_first) ∈ L) : Tabs W := by
 have r1 := Lib.laidMet.reads h h1
 have r2 := Lib.laidMet.reads h h2
 have r3 := Lib.laidMet.reads h h3
 rw [acc_same] at r1
 rw [case_same] at r2
 rw [first_same] at r3
 exact ⟨utf8Tabs_of_reads Tryz.lays260 ⟨by kernel_rfl, by kernel_rfl, by kernel_rfl, by kernel_rfl, by kernel_rfl, by kernel_rfl, by kernel_rfl⟩ r3 r1, caseVar_of_reads (ρ := Tryz.lays204_ren) { Tryz.lays204 with } Tryz.lays204.t206 ⟨by kernel_rfl, by kernel_rfl, by kernel_rfl, by kernel_rfl, by kernel_rfl, by kernel_rfl⟩ r2⟩
/-- eight variables -/
def laidList : List (String × DataW Unit) := Rows.jsonLooksRow.laid
theorem tabs_of_laid {W : World} (h : laidMetH Tryz.prog laidList W) : TabN W := by
 have h' : laidMet Tryz.prog laidList W := h
 exact ⟨tabs_of h' (.tail _ (.tail _ (.tail _ (.head _)))) (.tail _ (.tail _ (.tail _ (.tail _ (.tail _ (.tail _ (.head _))))))) (.tail _ (.tail _ (.tail _ (.tail _ (.tail _ (.tail _ (.tail _ (.head _)))))))), err_of_laid h' (.tail _ (.tail _ (.tail _ (.tail _ (.head _))))), ten_of_laid h' (.tail _ (.tail _ (.head _)))⟩
noncomputable def laidWorld (os : Os) : World := World.laidAll Tryz.prog os laidList
theorem laid_met_any (os : Os) (args : Array Value) : laidMetH Tryz.prog laidList ((laidWorld os).forCall (fun _ _ => 0) ⟨#[], args, []⟩).memory :=
 laidMet_laidAll args (by kernel_rfl) (by kernel_rfl)
end Go.Proofs.YtaiaiiepbpbmmaaGreatDoor
