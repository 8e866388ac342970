/- SnapshotKnown's walk. -/
import Derived.Test.YtcenfckjkboabaaGreatDoorS17
import Derived.Test.YtcenfckjkboabaaGreatDoorS20
namespace Go.Proofs.Dc
open Go.RowKit Go.Proofs Go.Lib Go.Maps

def G2f : List Gen := [⟨[], 0, []⟩, ⟨[dX], 0, uriL⟩, ⟨[dY], 0, uriL⟩]
def G3 : List Gen := [⟨[], 0, []⟩, ⟨[dX], 0, uriL⟩, ⟨[dY], 0, uriL⟩, ⟨[], 0, uriL⟩]
theorem inv_of {G : List Gen} (h : ∀ g ∈ G, g.docs = [] ∨ g.docs = [dX] ∨ g.docs = [dY]) : ∀ g ∈ G, Inv g.docs := fun g hg => by
  rcases h g hg with e | e | e
  · rw [e]; exact Inv.nil
  · rw [e]; exact inv_x
  · rw [e]; exact inv_y
theorem inv_G0 : ∀ g ∈ G0, Inv g.docs := inv_of (by decide)
theorem inv_G1 : ∀ g ∈ G1, Inv g.docs := inv_of (by decide)
theorem inv_G2f : ∀ g ∈ G2f, Inv g.docs := inv_of (by decide)
theorem inv_G3 : ∀ g ∈ G3, Inv g.docs := inv_of (by decide)
theorem chg_nil : chgE [dY] uriL 2 [] = 18 := by
  unfold chgE
  rw [show getD? [dY] uriL = some dY by decide]
  exact if_pos (by decide)
/-- a generation that has no documents -/
theorem sof_none {w : World} {s m lo : Nat} {G : List Gen} (h : SV w s m lo G) (hO : ∀ g ∈ G, Inv g.docs) (i : Int) (hi : wfI i) (hn : ofV (kept G) G i = some []) :
    Calls Tryz.prog 23 #[.pointer (some ⟨s, 0, none⟩), .int .i64 i] w fun e w' => ∃ p c, e = .returned (.tuple #[.slice p 0 c, .bool true]) ∧ Below w.heap.size w w' :=
  (sof_any h hO i hi).mono fun e w' ⟨hb, hr⟩ => by
    rcases hr with ⟨h1, _⟩ | ⟨L, v, h1, h2, h3⟩
    · rw [hn] at h1; cases h1
    · rw [hn] at h1
      obtain rfl := Option.some.inj h1
      obtain ⟨p, c, rfl⟩ := own_shape h3
      exact ⟨p, c, h2, hb⟩
set_option maxRecDepth 100000 in
set_option maxHeartbeats 16000000 in
theorem sknown_walk (w : World) (hT : Tabs w) : Calls Tryz.prog 8 #[] w fun e w' => e = .returned (.bool true) ∧ Below w.heap.size w w' := by
  have hlo := hT.lo
  have hT2 : Hid (∀ w', Below w.heap.size w w' → Tabs w') := Lib.hid fun w' hb => hT.below hb
  have hw := works28_any
  have hop := fun (w1 : World) (s m : Nat) (hb : Below w.heap.size w w1) (h : SV w1 s m w.heap.size G0) => sopen_any (hT.below hb) (by omega) h (by decide) ⟨[], 0, []⟩ rfl Inv.nil uriB xB 1 (by decide) (by decide)
  simp only [show uriB.data.toList = uriL from rfl, show xB.data.toList = [120] from rfl, open_x.1, open_x.2, show nextG G0 0 [dX] uriL = G1 from rfl] at hop
  have hho := fun (w1 : World) (s m : Nat) (h : SV w1 s m w.heap.size G1) => hold_any h (by decide) (by intro g hg; simp only [G1, List.mem_cons, List.not_mem_nil, or_false] at hg; rcases hg with rfl | rfl <;> decide)
  simp only [show holdG G1 = G1h from rfl, show (G1.length - 1 : Nat) = 1 from rfl, Int.natCast_one] at hho
  have hch := fun (w1 : World) (s m : Nat) (p : Option Addr) (hb : Below w.heap.size w w1) (h : SV w1 s m w.heap.size G1h) (hC : ChgsAt w1 p [wholeX yB]) => schange_any (hT.below hb) (by omega) h (by decide) ⟨[dX], 1, uriL⟩ rfl inv_x uriB 2 p 1 1 [wholeX yB] (by decide) rfl (by decide) hC (fun x hx => by rw [List.mem_singleton.1 hx]; decide)
  simp only [show uriB.data.toList = uriL from rfl, chg_y.1, chg_y.2, show nextG G1h 0 [dY] uriL = G2 from rfl] at hch
  have hch2 := fun (w1 : World) (s m : Nat) (hb : Below w.heap.size w w1) (h : SV w1 s m w.heap.size G2) => schange_any (hT.below hb) (by omega) h (by decide) ⟨[dY], 0, uriL⟩ rfl inv_y uriB 2 none 0 0 [] (by decide) rfl (by decide) (fun i z hz => by cases hz) (fun x hx => by cases hx)
  simp only [show uriB.data.toList = uriL from rfl, chg_nil, show ∀ L u, nextG G2 18 L u = G2 from fun _ _ => rfl] at hch2
  have hcl := fun (w1 : World) (s m : Nat) (hb : Below w.heap.size w w1) (h : SV w1 s m w.heap.size G2f) => sclose_any (hT.below hb) (by omega) h (by decide) ⟨[dY], 0, uriL⟩ rfl inv_y uriB (by decide)
  simp only [show uriB.data.toList = uriL from rfl, show closeE [dY] uriL = 0 by decide, show without uriL [dY] = [] by decide, show nextG G2f 0 [] uriL = G3 from rfl] at hcl
  have hfr1 := fun (w1 : World) (s m : Nat) (h : SV w1 s m w.heap.size G2) => free_any h (by decide) (by intro g hg; simp only [G2, List.mem_cons, List.not_mem_nil, or_false] at hg; rcases hg with rfl | rfl | rfl <;> decide) 1 (wfI_of (by decide) (by decide))
  simp only [show freeE G2 1 = 0 by decide, show freeG G2 1 = G2f from rfl] at hfr1
  have hfr2 := fun (w1 : World) (s m : Nat) (h : SV w1 s m w.heap.size G2f) => free_any h (by decide) (by intro g hg; simp only [G2f, List.mem_cons, List.not_mem_nil, or_false] at hg; rcases hg with rfl | rfl | rfl <;> decide) 1 (wfI_of (by decide) (by decide))
  simp only [show freeE G2f 1 = 5 by decide, show freeG G2f 1 = G2f from rfl] at hfr2
  have hk0 := fun (w1 : World) (s m : Nat) (h : SV w1 s m w.heap.size G0) => skept_any h
  simp only [show cnt (kept G0) G0.length = 1 from by decide, show ((1 : Nat) : Int) = 1 from rfl] at hk0
  have hk4 := fun (w1 : World) (s m : Nat) (h : SV w1 s m w.heap.size G2f) => skept_any h
  simp only [show cnt (kept G2f) G2f.length = 1 from by decide, show ((1 : Nat) : Int) = 1 from rfl] at hk4
  have hn1 := fun (w1 : World) (s m : Nat) (h : SV w1 s m w.heap.size G1) => snow_any h
  simp only [show (G1.length - 1 : Nat) = 1 from rfl, show ((1 : Nat) : Int) = 1 from rfl] at hn1
  have hn2 := fun (w1 : World) (s m : Nat) (h : SV w1 s m w.heap.size G2) => snow_any h
  simp only [show (G2.length - 1 : Nat) = 2 from rfl, show ((2 : Nat) : Int) = 2 from rfl] at hn2
  have hn3 := fun (w1 : World) (s m : Nat) (h : SV w1 s m w.heap.size G3) => snow_any h
  simp only [show (G3.length - 1 : Nat) = 3 from rfl, show ((3 : Nat) : Int) = 3 from rfl] at hn3
  have ho0 := fun (w1 : World) (s m : Nat) (h : SV w1 s m w.heap.size G0) => sof_none h inv_G0 0 (wfI_of (by decide) (by decide)) (by decide)
  have ho3 := fun (w1 : World) (s m : Nat) (h : SV w1 s m w.heap.size G3) => sof_none h inv_G3 3 (wfI_of (by decide) (by decide)) (by decide)
  have hno0 := fun (w1 : World) (s m : Nat) (h : SV w1 s m w.heap.size G1) => snone_any h inv_G1 0 (wfI_of (by decide) (by decide)) (by decide)
  have hno1 := fun (w1 : World) (s m : Nat) (h : SV w1 s m w.heap.size G2f) => snone_any h inv_G2f 1 (wfI_of (by decide) (by decide)) (by decide)
  have hc1 : ∀ (w1 : World) (s m : Nat), SV w1 s m w.heap.size G1 → Calls Tryz.prog 35 #[.pointer (some ⟨s, 0, none⟩), .int .i64 1, .int .i64 1] w1 fun e w' => e = .returned (.bool true) ∧ w1 = w' := fun w1 s m h => by
    obtain ⟨_, _, _, k⟩ := h
    exact scame_any k 1 (wfI_of (by decide) (by decide)) 1 (by decide)
  have hc3 : ∀ (w1 : World) (s m : Nat), SV w1 s m w.heap.size G3 → Calls Tryz.prog 25 #[.pointer (some ⟨s, 0, none⟩), .int .i64 3, .string uriB] w1 fun e w' => w1 = w' ∧ e = .returned (.tuple #[.int .i64 0, .bool false]) := fun w1 s m h => by
    obtain ⟨_, _, _, k⟩ := h
    have := came_any k 3 (wfI_of (by decide) (by decide)) uriB (by decide)
    rw [show uriB.data.toList = uriL from rfl, show cameV (kept G3) G3 3 uriL = none by decide] at this
    exact this
  have hu := suri_any
  have hwh := whole_any yB
  have hwa := fun w w1 hb => whole_at w w1 yB (by decide) hb
  have hnew := snew_any w
  have HX : Hid (xB = ⟨#[120]⟩) := Lib.hid rfl
  have HY : Hid (yB = ⟨#[121]⟩) := Lib.hid rfl
  clear hT
  unfold xB yB at *
  generalize uriB = U at *
  go_enter Tryz.func8, Tryz.ntmps8
  go_upto_region 12 with (first
    | (go_at_call 34; refine (hu _).mono ?_; rintro e wu ⟨rfl, hw⟩; subst wu)
    | (go_at_call 20; refine hnew.mono ?_; rintro e w1 ⟨s, m, rfl, T0, B⟩)
    | (go_at_call 19; refine (hw _ (hT2.out _ B)).mono ?_; rintro e w2 ⟨rfl, b⟩; replace T0 := T0.below b; replace B := B.trans (b.mono B.size))
    | (have GU := T0; clear GU; go_at_call 29; refine (hk0 _ _ _ T0).mono ?_; rintro e wu ⟨rfl, hw⟩; subst wu)
    | (have GU := T0; clear GU; go_at_call 23; refine (ho0 _ _ _ T0).mono ?_; rintro e w2 ⟨p0, q0, rfl, b⟩; replace T0 := T0.below b; replace B := B.trans (b.mono B.size))
    | (have GU := T0; clear GU; go_at_call 33; refine (hop _ _ _ B T0).mono ?_; rintro e w2 ⟨rfl, T1, _, b⟩; clear T0; replace B := B.trans b)
    | (have GU := T1; clear GU; go_at_call 24; refine (hn1 _ _ _ T1).mono ?_; rintro e wu ⟨rfl, hw⟩; subst wu)
    | (have GU := T1; clear GU; go_at_call 32; refine (hno0 _ _ _ T1).mono ?_; rintro e w2 ⟨rfl, b⟩; replace T1 := T1.below b; replace B := B.trans (b.mono B.size))
    | (have GU := T1; clear GU; go_at_call 35; refine (hc1 _ _ _ T1).mono ?_; rintro e wu ⟨rfl, hw⟩; subst wu)
    | (have GU := T1; clear GU; go_at_call 22; refine (hho _ _ _ T1).mono ?_; rintro e w3 ⟨rfl, T2, _, b⟩; clear T1; replace B := B.trans b)
    | (go_at_call 37; refine (hwh _).mono ?_; rintro e w4 ⟨rfl, hw4⟩; have b4 : Below w3.heap.size w3 w4 := (by rw [← hw4]; exact (Below.refl _ _).alloc (Nat.le_refl _) _); replace T2 := T2.below b4; replace B := B.trans (b4.mono B.size); have hC4 := hwa w3 w4 (by rw [hw4]; exact Below.refl _ _); clear hw4 b4)
    | (have GU := T2; clear GU; go_at_call 36; refine (hch _ _ _ _ B T2 hC4).mono ?_; rintro e w5 ⟨rfl, T3, _, b⟩; clear T2 hC4; replace B := B.trans b)
    | (have GU := T3; clear GU; go_at_call 36; refine (hch2 _ _ _ B T3).mono ?_; rintro e w6 ⟨rfl, T4, _, b⟩; clear T3; replace B := B.trans b)
    | (have GU := T4; clear GU; go_at_call 24; refine (hn2 _ _ _ T4).mono ?_; rintro e wu ⟨rfl, hw⟩; subst wu)
    | (have GU := T4; clear GU; go_at_call 31; refine (hfr1 _ _ _ T4).mono ?_; rintro e w7 ⟨rfl, T5, _, b⟩; clear T4; replace B := B.trans b)
    | (have GU := T5; clear GU; go_at_call 32; refine (hno1 _ _ _ T5).mono ?_; rintro e w2 ⟨rfl, b⟩; replace T5 := T5.below b; replace B := B.trans (b.mono B.size))
    | (have GU := T5; clear GU; go_at_call 31; refine (hfr2 _ _ _ T5).mono ?_; rintro e w7 ⟨rfl, T6, _, b⟩; clear T5; replace B := B.trans b)
    | (have GU := T6; clear GU; go_at_call 29; refine (hk4 _ _ _ T6).mono ?_; rintro e wu ⟨rfl, hw⟩; subst wu)
    | (have GU := T6; clear GU; go_at_call 38; refine (hcl _ _ _ B T6).mono ?_; rintro e w7 ⟨rfl, T7, _, b⟩; clear T6; replace B := B.trans b)
    | (have GU := T7; clear GU; go_at_call 24; refine (hn3 _ _ _ T7).mono ?_; rintro e wu ⟨rfl, hw⟩; subst wu)
    | (have GU := T7; clear GU; go_at_call 23; refine (ho3 _ _ _ T7).mono ?_; rintro e w8 ⟨p3, q3, rfl, b⟩; replace T7 := T7.below b; replace B := B.trans (b.mono B.size))
    | (have GU := T7; clear GU; go_at_call 25; refine (hc3 _ _ _ T7).mono ?_; rintro e wu ⟨hw, rfl⟩; subst wu))
  have bz : Below w8.heap.size w8 (w8.alloc (.cells #[.map none, .int .i64 0] 72)) := (Below.refl _ _).alloc (Nat.le_refl _) _
  have BZ := Below.refl (w8.alloc (.cells #[.map none, .int .i64 0] 72)).heap.size (w8.alloc (.cells #[.map none, .int .i64 0] 72))
  have ZN : Hid (∀ W, Below (w8.alloc (.cells #[.map none, .int .i64 0] 72)).heap.size (w8.alloc (.cells #[.map none, .int .i64 0] 72)) W → NoneS W (some ⟨w8.heap.size, 0, none⟩)) := Lib.hid fun W hb => .inr ⟨_, rfl, (hb.block _ (by simp)).trans (World.alloc_heap_new w8 _)⟩
  have hB := B.trans (bz.mono B.size)
  have hz := B.size
  clear hop hho hch hch2 hcl hfr1 hfr2 hk0 hk4 hn1 hn2 hn3 ho0 ho3 hno0 hno1 hc1 hc3 hwh hwa hnew B bz T7
  go_wp2_with (first
    | (go_at_call 34; refine (hu _).mono ?_; rintro e wu ⟨rfl, hw⟩; subst wu)
    | (go_at_call 33; refine (nopen_any _ _ (by first | exact .inl rfl | exact ZN.out _ BZ) _ _ _).mono ?_; rintro e w9 ⟨rfl, b⟩; replace BZ := BZ.trans (b.mono BZ.size))
    | (go_at_call 36; refine (nchange_any _ _ (by first | exact .inl rfl | exact ZN.out _ BZ) _ _ _ _ _).mono ?_; rintro e w9 ⟨rfl, b⟩; replace BZ := BZ.trans (b.mono BZ.size))
    | (go_at_call 38; refine (nclose_any _ _ (by first | exact .inl rfl | exact ZN.out _ BZ) _).mono ?_; rintro e w9 ⟨rfl, b⟩; replace BZ := BZ.trans (b.mono BZ.size))
    | (go_at_call 31; refine (nfree_any _ _ (by first | exact .inl rfl | exact ZN.out _ BZ) _).mono ?_; rintro e wu ⟨rfl, hw⟩; subst wu)
    | (go_at_call 22; refine (nhold_any _ _ (by first | exact .inl rfl | exact ZN.out _ BZ)).mono ?_; rintro e wu ⟨rfl, hw⟩; subst wu)
    | (go_at_call 29; refine (nkept_any _ _ (by first | exact .inl rfl | exact ZN.out _ BZ)).mono ?_; rintro e wu ⟨rfl, hw⟩; subst wu)
    | (go_at_call 24; refine (nnow_any _ _ (by first | exact .inl rfl | exact ZN.out _ BZ)).mono ?_; rintro e wu ⟨rfl, hw⟩; subst wu)
    | (go_at_call 32; refine (nnone_any _ _ (by first | exact .inl rfl | exact ZN.out _ BZ) _).mono ?_; rintro e wu ⟨rfl, hw⟩; subst wu)
    | (go_at_call 19; refine (hw _ (hT2.out _ (hB.trans (BZ.mono (by simp; omega))))).mono ?_; rintro e w9 ⟨rfl, b⟩; replace BZ := BZ.trans (b.mono BZ.size)))
  go_ret
  exact ⟨rfl, hB.trans (BZ.mono (by simp; omega))⟩
end Go.Proofs.Dc
