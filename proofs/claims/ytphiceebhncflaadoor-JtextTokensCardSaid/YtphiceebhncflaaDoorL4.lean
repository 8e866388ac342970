/- JtextTokens: the walk. -/
import Derived.Test.YtphiceebhncflaaDoorR11
import Derived.Test.YtphiceebhncflaaDoorL1
namespace Go.Proofs.Jt
open Go.RowKit Go.Proofs Go.Lib Go.Proofs.Utf

set_option maxRecDepth 100000 in
set_option maxHeartbeats 800000 in
theorem tokens_law (s0 : ByteArray) (w : World) (hT : Tabs w) (hs0 : s0.size ≤ 9223372036854775807) :
    Calls Tryd.prog 3 #[.string s0] w fun e w' => e = .returned (.bool true) ∧ Below w.heap.size w w' := by
  have hcut := cut_any s0 w hs0
  obtain ⟨s, hs⟩ : ∃ s, s0.extract 0 (min s0.size 2000) = s := ⟨_, rfl⟩
  have hsz : s.size ≤ 2000 := by rw [← hs, ByteArray.size_extract]; omega
  rw [hs] at hcut
  have hc := tokens_any s w hT (by omega)
  have hr := fun w => tokens_ref s w (by omega)
  obtain ⟨R, hR⟩ : ∃ R, toksL s.data.toList = R := ⟨_, rfl⟩
  rw [hR] at hc
  simp only [hR] at hr
  obtain ⟨T, pl, er⟩ := R
  simp only at hc hr
  clear hR hs
  go_enter Tryd.func3, Tryd.ntmps3
  go_wp2_with (first
    | (go_at_call 13; refine hcut.mono ?_; rintro e w1 ⟨rfl, hw⟩; subst hw)
    | (go_at_call 14; refine hc.mono ?_; rintro e w1 ⟨v, rfl, ho, hb⟩
       obtain ⟨p, cap, rfl⟩ := row_shape ho
       have hfew := toks_few ho)
    | (go_at_call 15; refine (hr _).mono ?_; rintro e w2 ⟨v, rfl, ho2, hb2⟩
       obtain ⟨p2, cap2, rfl⟩ := row_shape ho2))
  have ho1 := own_below ho hb2
  have hbb := hb.trans (hb2.mono hb.size)
  have hz2 := hbb.size
  clear ho hb hb2 hc hr hcut
  go_loopw [9] (fun i wr => ∃ k : Nat, i = .int .i64 k ∧ k ≤ T.length ∧ Below w2.heap.size w2 wr) (fun i _ => T.length - (RowKit.intOf i).toNat)
  case atStart => exact ⟨0, rfl, Nat.zero_le _, Below.refl _ _⟩
  case round =>
    obtain ⟨k, rfl, hk, hB⟩ := hrel
    by_cases hkn : (k : Int) < (T.length : Int)
    · have hkl : k < T.length := by omega
      obtain ⟨g, cap', hv, hcap, hcell⟩ := toks_at ho1 (by omega)
      cases hv
      obtain ⟨g2, cap2', hv2, hcap2, hcell2⟩ := toks_at ho2 (by omega)
      cases hv2
      obtain ⟨t, ht'⟩ : ∃ t, T[k]? = some t := ⟨_, List.getElem?_eq_getElem hkl⟩
      obtain ⟨c0, c1, c2, c3, hg⟩ := hcell k t ht'
      obtain ⟨d0, d1, d2, d3, hg2⟩ := hcell2 k t ht'
      have a0 := (hB.cell (p := ⟨g, k * 4, none⟩) hg).trans c0
      have a1 := (hB.cell (p := ⟨g, k * 4 + 1, none⟩) hg).trans c1
      have a2 := (hB.cell (p := ⟨g, k * 4 + 2, none⟩) hg).trans c2
      have a3 := (hB.cell (p := ⟨g, k * 4 + 3, none⟩) hg).trans c3
      have b0 := (hB.cell (p := ⟨g2, k * 4, none⟩) hg2).trans d0
      have b1 := (hB.cell (p := ⟨g2, k * 4 + 1, none⟩) hg2).trans d1
      have b2 := (hB.cell (p := ⟨g2, k * 4 + 2, none⟩) hg2).trans d2
      have b3 := (hB.cell (p := ⟨g2, k * 4 + 3, none⟩) hg2).trans d3
      clear c0 c1 c2 c3 d0 d1 d2 d3 hcell hcell2 ht'
      go_wp2
      go_big_quiet (fail)
      go_wp2
      go_roundw
      case rel => exact ⟨k + 1, by go_num, by omega, below_draws hB _⟩
      case measure => simp [RowKit.intOf]; omega
    · clear ho1 ho2
      go_wp2_with (first
        | (go_at_call 16; refine (awake_any _ (hT.below (hbb.trans (hB.mono hz2)))).mono ?_; rintro e w4 ⟨rfl, hb4⟩))
      go_ret
      have hz := hbb.trans (hB.mono hz2)
      exact ⟨rfl, hz.trans (hb4.mono hz.size)⟩
end Go.Proofs.Jt
