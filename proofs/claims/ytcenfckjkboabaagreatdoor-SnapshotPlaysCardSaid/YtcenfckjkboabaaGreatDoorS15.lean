/- The laws' works on a Snapshots. -/
import Derived.Test.YtcenfckjkboabaaGreatDoorS14
namespace Go.Proofs.Dc
open Go.RowKit Go.Proofs Go.Lib Go.Maps

def xB : ByteArray := ⟨#[120]⟩
def yB : ByteArray := ⟨#[121]⟩
def dX : Doc := ⟨uriL, [120], 1⟩
def dY : Doc := ⟨uriL, [121], 2⟩
theorem dir_uri2 : (dirV uriL).isSome = true := by decide +kernel
theorem open_x : openE [] uriL [120] = 0 ∧ openL [] uriL [120] 1 = [dX] := by
  have h0 : openE [] uriL [120] = 0 := by
    unfold openE
    rw [dir_uri2, if_neg (by decide), if_neg (by decide), if_neg (by decide)]
    decide
  refine ⟨h0, ?_⟩
  unfold openL
  rw [h0]
  rfl
theorem chg_y : chgE [dX] uriL 2 [wholeX yB] = 0 ∧ chgL [dX] uriL 2 [wholeX yB] = [dY] := by
  have hs : stepV (textB dX) (wholeX yB) = (yB, 0) := by
    rw [step_whole (by decide) rfl]
    rfl
  have ha : afterV (textB dX) [wholeX yB] = (yB, 0) := by
    rw [afterV_cons_ok hs]
    rfl
  have hg : getD? [dX] uriL = some dX := rfl
  unfold chgE chgL
  rw [hg]
  simp only
  rw [if_neg (by decide), if_neg (by decide), ha]
  exact ⟨rfl, rfl⟩
def G1 : List Gen := [⟨[], 0, []⟩, ⟨[dX], 0, uriL⟩]
def G1h : List Gen := [⟨[], 0, []⟩, ⟨[dX], 1, uriL⟩]
def G2 : List Gen := [⟨[], 0, []⟩, ⟨[dX], 1, uriL⟩, ⟨[dY], 0, uriL⟩]
theorem inv_x : Inv [dX] := by
  have := Inv.nil.opened uriL [120] 1
  rw [open_x.2] at this
  exact this
theorem inv_y : Inv [dY] := by
  have := inv_x.changed uriL 2 [wholeX yB]
  rw [chg_y.2] at this
  exact this
theorem inv_G2 : ∀ g ∈ G2, Inv g.docs := fun g hg => by
  simp only [G2, List.mem_cons, List.not_mem_nil, or_false] at hg
  rcases hg with rfl | rfl | rfl
  · exact Inv.nil
  · exact inv_x
  · exact inv_y
set_option maxRecDepth 100000 in
set_option maxHeartbeats 8000000 in
theorem works28_any (w : World) (hT : Tabs w) : Calls Tryz.prog 19 #[] w fun e w' => e = .returned (.bool true) ∧ Below w.heap.size w w' := by
  have hlo := hT.lo
  have hT2 : Hid (∀ w', Below w.heap.size w w' → Tabs w') := Lib.hid fun w' hb => hT.below hb
  have hop := fun (w1 : World) (s m : Nat) (hb : Below w.heap.size w w1) (h : SV w1 s m w.heap.size G0) => sopen_any (hT.below hb) (by omega) h (by decide) ⟨[], 0, []⟩ rfl Inv.nil uriB xB 1 (by decide) (by decide)
  simp only [show uriB.data.toList = uriL from rfl, show xB.data.toList = [120] from rfl, open_x.1, open_x.2, show nextG G0 0 [dX] uriL = G1 from rfl] at hop
  have hho := fun (w1 : World) (s m : Nat) (h : SV w1 s m w.heap.size G1) => hold_any h (by decide) (by intro g hg; simp only [G1, List.mem_cons, List.not_mem_nil, or_false] at hg; rcases hg with rfl | rfl <;> decide)
  simp only [show holdG G1 = G1h from rfl, show (G1.length - 1 : Nat) = 1 from rfl, Int.natCast_one] at hho
  have hch := fun (w1 : World) (s m : Nat) (p : Option Addr) (hb : Below w.heap.size w w1) (h : SV w1 s m w.heap.size G1h) (hC : ChgsAt w1 p [wholeX yB]) => schange_any (hT.below hb) (by omega) h (by decide) ⟨[dX], 1, uriL⟩ rfl inv_x uriB 2 p 1 1 [wholeX yB] (by decide) rfl (by decide) hC (fun x hx => by rw [List.mem_singleton.1 hx]; decide)
  simp only [show uriB.data.toList = uriL from rfl, chg_y.1, chg_y.2, show nextG G1h 0 [dY] uriL = G2 from rfl] at hch
  have hnw := fun (w1 : World) (s m : Nat) (h : SV w1 s m w.heap.size G0) => snow_any h
  simp only [show (G0.length - 1 : Nat) = 0 from rfl, Int.natCast_zero] at hnw
  have hkp := fun (w1 : World) (s m : Nat) (h : SV w1 s m w.heap.size G2) => skept_any h
  simp only [show cnt (kept G2) G2.length = 2 from by decide, show ((2 : Nat) : Int) = 2 from rfl] at hkp
  have ho1 : ∀ (w1 : World) (s m : Nat), SV w1 s m w.heap.size G2 → Calls Tryz.prog 65 #[.pointer (some ⟨s, 0, none⟩), .int .i64 1, .string xB, .int .i64 1] w1 fun e w' => e = .returned (.bool true) ∧ Below w1.heap.size w1 w' := fun w1 s m h => by
    obtain ⟨_, _, _, k⟩ := h
    exact only_any k inv_G2 1 (wfI_of (by decide) (by decide)) xB 1 (by decide)
  have ho2 : ∀ (w1 : World) (s m : Nat), SV w1 s m w.heap.size G2 → Calls Tryz.prog 65 #[.pointer (some ⟨s, 0, none⟩), .int .i64 2, .string yB, .int .i64 2] w1 fun e w' => e = .returned (.bool true) ∧ Below w1.heap.size w1 w' := fun w1 s m h => by
    obtain ⟨_, _, _, k⟩ := h
    exact only_any k inv_G2 2 (wfI_of (by decide) (by decide)) yB 2 (by decide)
  have hc2 : ∀ (w1 : World) (s m : Nat), SV w1 s m w.heap.size G2 → Calls Tryz.prog 35 #[.pointer (some ⟨s, 0, none⟩), .int .i64 2, .int .i64 2] w1 fun e w' => e = .returned (.bool true) ∧ w1 = w' := fun w1 s m h => by
    obtain ⟨_, _, _, k⟩ := h
    exact scame_any k 2 (wfI_of (by decide) (by decide)) 2 (by decide)
  have hc1 : ∀ (w1 : World) (s m : Nat), SV w1 s m w.heap.size G2 → Calls Tryz.prog 35 #[.pointer (some ⟨s, 0, none⟩), .int .i64 1, .int .i64 1] w1 fun e w' => e = .returned (.bool true) ∧ w1 = w' := fun w1 s m h => by
    obtain ⟨_, _, _, k⟩ := h
    exact scame_any k 1 (wfI_of (by decide) (by decide)) 1 (by decide)
  have hu := suri_any
  have hwh := whole_any yB
  have hwa := fun w w1 hb => whole_at w w1 yB (by decide) hb
  have hnew := snew_any w
  have HX : Hid (xB = ⟨#[120]⟩) := Lib.hid rfl
  have HY : Hid (yB = ⟨#[121]⟩) := Lib.hid rfl
  clear hT
  unfold xB yB at *
  generalize uriB = U at *
  go_enter Tryz.func19, Tryz.ntmps19
  go_wp2_with (first
    | (go_at_call 34; refine (hu _).mono ?_; rintro e wu ⟨rfl, hw⟩; subst wu)
    | (go_at_call 20; refine hnew.mono ?_; rintro e w1 ⟨s, m, rfl, S1, b1⟩)
    | (go_at_call 24; refine (hnw _ _ _ S1).mono ?_; rintro e wu ⟨rfl, hw⟩; subst wu)
    | (go_at_call 33; refine (hop _ _ _ b1 S1).mono ?_; rintro e w2 ⟨rfl, S2, _, b2⟩; have B2 := b1.trans b2)
    | (go_at_call 22; refine (hho _ _ _ S2).mono ?_; rintro e w3 ⟨rfl, S3, _, b3⟩; have B3 := B2.trans b3)
    | (go_at_call 37; refine (hwh _).mono ?_; rintro e w4 ⟨rfl, hw4⟩; have b4 : Below w3.heap.size w3 w4 := (by rw [← hw4]; exact (Below.refl _ _).alloc (Nat.le_refl _) _); have S4 := S3.below b4; have B4 := B3.trans (b4.mono B3.size); have hC4 := hwa w3 w4 (by rw [hw4]; exact Below.refl _ _); clear hw4)
    | (go_at_call 36; refine (hch _ _ _ _ B4 S4 hC4).mono ?_; rintro e w5 ⟨rfl, S5, _, b5⟩; have B5 := B4.trans b5)
    | (have GU := hc2; clear GU; go_at_call 35; refine (hc2 _ _ _ S7).mono ?_; rintro e wu ⟨rfl, hw⟩; subst wu; clear hc2)
    | (go_at_call 35; refine (hc1 _ _ _ S7).mono ?_; rintro e wu ⟨rfl, hw⟩; subst wu)
    | (have GU := S6; clear GU; go_at_call 65; refine (ho2 _ _ _ S6).mono ?_; rintro e w7 ⟨rfl, b7⟩; have S7 := S6.below b7; have B7 := B6.trans (b7.mono B6.size); clear S6)
    | (go_at_call 65; refine (ho1 _ _ _ S5).mono ?_; rintro e w6 ⟨rfl, b6⟩; have S6 := S5.below b6; have B6 := B5.trans (b6.mono B5.size))
    | (go_at_call 29; refine (hkp _ _ _ S7).mono ?_; rintro e wu ⟨rfl, hw⟩; subst wu))
  go_ret
  exact ⟨rfl, B7⟩
end Go.Proofs.Dc
