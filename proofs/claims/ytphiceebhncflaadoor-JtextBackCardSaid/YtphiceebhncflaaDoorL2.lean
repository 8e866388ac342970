/- JtextBack: the walk. -/
import Derived.Test.YtphiceebhncflaaDoorJ11
import Derived.Test.YtphiceebhncflaaDoorL1
namespace Go.Proofs.Jt
open Go.RowKit Go.Proofs Go.Lib Go.Proofs.Utf

set_option maxRecDepth 100000 in
set_option maxHeartbeats 800000 in
theorem back_walk (s0 : ByteArray) (w : World) (hT : Tabs w) (hs0 : s0.size ≤ 9223372036854775807) :
    Calls Tryd.prog 8 #[.string s0] w fun e w' => e = .returned (.bool true) ∧ Below w.heap.size w w' := by
  have hcut := cut_any s0 w hs0
  obtain ⟨s, hs⟩ : ∃ s, s0.extract 0 (min s0.size 2000) = s := ⟨_, rfl⟩
  have hsz : s.size ≤ 2000 := by rw [← hs, ByteArray.size_extract]; omega
  rw [hs] at hcut
  clear hs
  cases hv : validD s.data.toList with
  | true =>
    have hq := quote_walk s w hT (by omega) hv
    have hl := quote_len s.data.toList
    rw [← Lib.size_eq] at hl
    obtain ⟨X, hX⟩ : ∃ X : ByteArray, (⟨(quoteL s.data.toList).toArray⟩ : ByteArray) = X := ⟨_, rfl⟩
    have hXl : X.data.toList = quoteL s.data.toList := by rw [← hX]
    have hXs : X.size = (quoteL s.data.toList).length := by rw [Lib.size_eq, hXl]
    have hc := fun w hT => tokens_any X w hT (by omega)
    rw [hXl, toks_quote _ hv, ← hXs] at hc

    rw [hX] at hq
    obtain ⟨T, hTk⟩ : ∃ T : List Tok, [⟨4, s.data.toList, 0, X.size⟩] = T := ⟨_, rfl⟩
    have t0 : T[0]? = some ⟨4, s.data.toList, 0, X.size⟩ := by rw [← hTk]; rfl
    have e1 : T.length = 1 := by rw [← hTk]; rfl
    simp only [hTk] at hc
    clear hTk hX hXl hXs hl hv
    go_enter Tryd.func8, Tryd.ntmps8
    go_wp2_with (first
      | (go_at_call 13; refine hcut.mono ?_; rintro e w1 ⟨rfl, hw⟩; subst hw)
      | (go_at_call 18; refine hq.mono ?_; rintro e w1 ⟨rfl, hb1⟩; have hT1 := hT.below hb1)
      | (go_at_call 14; go_loud (refine (hc _ hT1).mono ?_; (rintro e w2 ⟨v, rfl, ho, hb2⟩); obtain ⟨g, cap, rfl, hcap, hcell⟩ := toks_at ho (show 0 < T.length by omega); obtain ⟨a0, a1, a2, a3, _⟩ := hcell 0 _ t0; clear hcell; simp only [e1] at hcap; have hb := hb1.trans (hb2.mono hb1.size)))
      | (go_at_call 16; refine (awake_any _ (hT.below hb)).mono ?_; rintro e w4 ⟨rfl, hb4⟩))
    go_ret
    exact ⟨rfl, hb.trans (hb4.mono hb.size)⟩
  | false =>
    have hq := quote_broken s w hT (by omega) hv
    clear hv
    go_enter Tryd.func8, Tryd.ntmps8
    go_wp2_with (first
      | (go_at_call 13; refine hcut.mono ?_; rintro e w1 ⟨rfl, hw⟩; subst hw)
      | (go_at_call 18; refine hq.mono ?_; rintro e w1 ⟨rfl, hb1⟩)
      | (go_at_call 16; refine (awake_any _ (hT.below hb1)).mono ?_; rintro e w4 ⟨rfl, hb4⟩))
    go_ret
    exact ⟨rfl, hb1.trans (hb4.mono hb1.size)⟩
end Go.Proofs.Jt
