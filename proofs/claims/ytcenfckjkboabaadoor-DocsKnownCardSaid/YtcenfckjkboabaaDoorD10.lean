/- The laws' is, works. -/
import Derived.Test.YtcenfckjkboabaaDoorD9
namespace Go.Proofs.Dc
open Go.RowKit Go.Proofs Go.Lib Go.Maps

set_option maxRecDepth 100000 in
set_option maxHeartbeats 1000000 in
theorem isdoc_any (w : World) (b M : Nat) (L : List Doc) (h : DV w b M L) (T : ByteArray) (v : Int) (hg : getD? L uriL = some ⟨uriL, T.data.toList, v⟩) : Calls Tryd.prog 24 #[.pointer (some ⟨b, 0, none⟩), .string T, .int .i64 v] w fun e w' => e = .returned (.bool true) ∧ Below w.heap.size w w' := by
  have hget := get_any w b M L h uriB (by decide)
  rw [show uriB.data.toList = uriL from rfl, hg] at hget
  have hget2 : Calls Tryd.prog 16 #[.pointer (some ⟨b, 0, none⟩), .string uriB] w fun e w' => e = .returned (.tuple #[.agg #[.string uriB, .string T, .int .i64 v], .bool true]) ∧ Below w.heap.size w w' := hget
  have hu := uri_any
  clear hget hg h
  generalize uriB = X at *
  go_enter Tryd.func24, Tryd.ntmps24
  go_wp2_with (first
    | (go_at_call 14; refine (hu _).mono ?_; rintro e w2 ⟨rfl, hw⟩; subst w2)
    | (go_at_call 16; refine hget2.mono ?_; rintro e w3 ⟨rfl, hb3⟩
       have bV : Below w.heap.size w (w3.alloc (.cells #[.string X, .string T, .int .i64 v] 38)) := hb3.trans ((Below.refl _ _).alloc hb3.size _)))
  have hu2 : ∀ n, Calls Tryd.prog 14 #[] ((w3.alloc (.cells #[.string X, .string T, .int .i64 v] 38)).drewN n) fun e w'' => e = .returned (.string X) ∧ ∃ m, w'' = (w3.alloc (.cells #[.string X, .string T, .int .i64 v] 38)).drewN m := fun n => (hu _).mono fun e w' h => ⟨h.1, n, h.2.symm⟩
  go_big_quiet (exact hu2 _)
  go_wp2
  go_ret
  exact ⟨rfl, below_draws bV _⟩
theorem chgs_two' (W : World) (k : Nat) (x y : Chg) (h : W.heap[k]? = some (.cells #[.bool x.whole, .int .i64 x.a, .int .i64 x.b, .int .i64 x.c, .int .i64 x.d, .string x.text, .bool y.whole, .int .i64 y.a, .int .i64 y.b, .int .i64 y.c, .int .i64 y.d, .string y.text] 54 (0, 0))) (hx : x.text.size ≤ maxLen) (hy : y.text.size ≤ maxLen) : ChgsAt W (some ⟨k, 0, none⟩) [x, y] := by
  have hk := (Array.getElem?_eq_some_iff.1 h).1
  intro i z hz
  refine ⟨_, rfl, ?_⟩
  match i, hz with
  | 0, hz =>
    obtain rfl := Option.some.inj hz
    refine ⟨?_, ?_, ?_, ?_, ?_, ?_, hx, by simpa [Addr.add] using hk⟩ <;> simp [World.cell?, Addr.add, h]
  | 1, hz =>
    obtain rfl := Option.some.inj hz
    refine ⟨?_, ?_, ?_, ?_, ?_, ?_, hy, by simpa [Addr.add] using hk⟩ <;> simp [World.cell?, Addr.add, h]
  | i + 2, hz => cases hz
theorem chgs_two (w : World) (x y : Chg) (hx : x.text.size ≤ maxLen) (hy : y.text.size ≤ maxLen) : ChgsAt (w.alloc (.cells #[.bool x.whole, .int .i64 x.a, .int .i64 x.b, .int .i64 x.c, .int .i64 x.d, .string x.text, .bool y.whole, .int .i64 y.a, .int .i64 y.b, .int .i64 y.c, .int .i64 y.d, .string y.text] 54)) (some ⟨w.heap.size, 0, none⟩) [x, y] :=
  chgs_two' _ _ _ _ (World.alloc_heap_new w _) hx hy
theorem get_xy : getD? [xyD] uriL = some ⟨uriL, [120, 121], 5⟩ := by decide +kernel
theorem get_wxz : getD? [wxzD] uriL = some ⟨uriL, [119, 120, 122], 6⟩ := by decide +kernel
set_option maxRecDepth 100000 in
set_option maxHeartbeats 4000000 in
theorem works_any (w : World) (hT : Tabs w) : Calls Tryd.prog 7 #[] w fun e w' => e = .returned (.bool true) ∧ Below w.heap.size w w' := by
  have ho := fun w1 b M h1 h2 h3 => open_any w1 h1 b M [xyD] h2 h3 uriB ⟨#[]⟩ 6 (by decide) (by decide) (by decide)
  simp only [show uriB.data.toList = uriL from rfl, open1, open1L] at ho
  have hc := fun w1 b M h1 h2 h3 p c h4 => change_any w1 h1 b M [xyD] h2 h3 uriB 6 p 2 c [cutC 1 2 ⟨#[122]⟩, cutC 0 0 ⟨#[119]⟩] (by decide) rfl (by decide) h4 (by decide) (by decide) (by decide)
  simp only [show uriB.data.toList = uriL from rfl, chg1, chg1L] at hc
  have h2c := fun w => chgs_two w (cutC 1 2 ⟨#[122]⟩) (cutC 0 0 ⟨#[119]⟩) (by decide) (by decide)
  have g1 := fun w b M h => isdoc_any w b M [xyD] h ⟨#[120, 121]⟩ 5 get_xy
  have g2 := fun w b M h => isdoc_any w b M [wxzD] h ⟨#[119, 120, 122]⟩ 6 get_wxz
  have hop := opened_any w hT
  have hu := uri_any
  have hlo := hT.lo
  generalize uriB = X at ho hu hc
  generalize [xyD] = L1 at *
  generalize [wxzD] = L2 at *
  generalize [cutC 1 2 ⟨#[122]⟩, cutC 0 0 ⟨#[119]⟩] = C at *
  unfold cutC at h2c
  simp only at h2c
  go_enter Tryd.func7, Tryd.ntmps7
  go_wp2_with (first
    | (go_at_call 21; refine hop.mono ?_; rintro e w1 ⟨b, M, rfl, hd1, hb1, hbb, hMM⟩)
    | (have GU := hd7; clear GU; go_at_call 24; refine (g2 _ b M hd7).mono ?_; rintro e w8 ⟨rfl, hb8⟩)
    | (go_at_call 24; refine (g1 _ b M hd1).mono ?_; rintro e w2 ⟨rfl, hb2⟩; have hd2 := hd1.below hb2; have B2 := hb1.trans (hb2.mono hb1.size))
    | (go_at_call 14; refine (hu _).mono ?_; rintro e wu ⟨rfl, hw⟩; subst wu)
    | (go_at_call 13; refine (ho _ b M (hT.below B2) hd2 (by omega)).mono ?_; rintro e w3 ⟨rfl, hd3, hg3⟩; have B3 := B2.trans (below_gb hMM B2.size hg3))
    | (have GU := hd4; clear GU; go_at_call 23; refine (lawcut_any _ _ _ _).mono ?_; rintro e w5 ⟨rfl, hb5⟩; have hd5 := hd4.below hb5; have B5 := B4.trans (hb5.mono B4.size))
    | (go_at_call 23; refine (lawcut_any _ _ _ _).mono ?_; rintro e w4 ⟨rfl, hb4⟩; have hd4 := hd3.below hb4; have B4 := B3.trans (hb4.mono B3.size))
    | (go_at_call 15; refine (hc _ b M (hT.below (B5.trans ((Below.refl _ _).alloc B5.size _))) (hd5.below ((Below.refl _ _).alloc (Nat.le_refl _) _)) (by omega) _ _ (h2c _)).mono ?_; rintro e w7 ⟨rfl, hd7, hg7⟩; have B7 := (B5.trans ((Below.refl _ _).alloc B5.size _)).trans (below_gb hMM (Nat.le_trans B5.size (by simp)) hg7)))
  go_ret
  exact ⟨rfl, B7.trans (hb8.mono B7.size)⟩
end Go.Proofs.Dc
