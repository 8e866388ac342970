/- JtextQuotes: the walk. -/
import Derived.Test.YtphiceebhncflaaDoorR12
import Derived.Test.YtphiceebhncflaaDoorL1
namespace Go.Proofs.Jt
open Go.RowKit Go.Proofs Go.Lib Go.Proofs.Utf

set_option maxRecDepth 100000 in
set_option maxHeartbeats 800000 in
theorem quotes_walk (s0 : ByteArray) (w : World) (hT : Tabs w) (hs0 : s0.size ≤ 9223372036854775807) :
    Calls Tryd.prog 6 #[.string s0] w fun e w' => e = .returned (.bool true) ∧ Below w.heap.size w w' := by
  have hcut := cut_any s0 w hs0
  obtain ⟨s, hs⟩ : ∃ s, s0.extract 0 (min s0.size 2000) = s := ⟨_, rfl⟩
  have hsz : s.size ≤ 2000 := by rw [← hs, ByteArray.size_extract]; omega
  rw [hs] at hcut
  clear hs
  have hr := fun w => quote_ref s w (by omega)
  unfold quoteRV at hr
  cases hv : validD s.data.toList with
  | true =>
    have hq := quote_walk s w hT (by omega) hv
    rw [hv, if_pos rfl] at hr
    obtain ⟨X, hX⟩ : ∃ X : ByteArray, (⟨(quoteL s.data.toList).toArray⟩ : ByteArray) = X := ⟨_, rfl⟩
    rw [hX] at hq
    simp only [hX] at hr
    clear hX hv
    go_enter Tryd.func6, Tryd.ntmps6
    go_wp2_with (first
      | (go_at_call 13; refine hcut.mono ?_; rintro e w1 ⟨rfl, hw⟩; subst hw)
      | (go_at_call 18; refine hq.mono ?_; rintro e w1 ⟨rfl, hb1⟩)
      | (go_at_call 19; refine (hr _).mono ?_; rintro e w2 ⟨rfl, hb2⟩; have hb := hb1.trans (hb2.mono hb1.size))
      | (go_at_call 16; refine (awake_any _ (hT.below hb)).mono ?_; rintro e w4 ⟨rfl, hb4⟩))
    go_ret
    exact ⟨rfl, hb.trans (hb4.mono hb.size)⟩
  | false =>
    have hq := quote_broken s w hT (by omega) hv
    rw [hv, if_neg (by decide)] at hr
    clear hv
    go_enter Tryd.func6, Tryd.ntmps6
    go_wp2_with (first
      | (go_at_call 13; refine hcut.mono ?_; rintro e w1 ⟨rfl, hw⟩; subst hw)
      | (go_at_call 18; refine hq.mono ?_; rintro e w1 ⟨rfl, hb1⟩)
      | (go_at_call 19; refine (hr _).mono ?_; rintro e w2 ⟨rfl, hb2⟩; have hb := hb1.trans (hb2.mono hb1.size))
      | (go_at_call 16; refine (awake_any _ (hT.below hb)).mono ?_; rintro e w4 ⟨rfl, hb4⟩))
    go_ret
    exact ⟨rfl, hb.trans (hb4.mono hb.size)⟩
end Go.Proofs.Jt
