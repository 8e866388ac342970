/- QueueKnown: the walk. -/
import Derived.Test.YtkejopmohnfpgaaK1
namespace Go.Proofs.Ytkejopmohnfpgaa
open Go.RowKit Go.Maps Go.Proofs

set_option maxRecDepth 100000 in
set_option maxHeartbeats 4000000 in
theorem law_queueKnown (w : World) : Calls Try.prog 6 #[] w fun e w' => e = .returned (.bool true) ∧ Below w.heap.size w w' := by
  go_enter Try.func6, Try.ntmps6
  go_wp2_with (first
    | (go_at_call 7; (with_reducible show Calls _ _ _ w _); refine (new_q w 2 (by decide) (by decide)).mono ?_; rintro e w1 ⟨qb, mb, rfl, d1, H1⟩)
    | (go_at_call_of 8 (Value.int .i64 1); (with_reducible show Calls _ _ _ w1 _); refine (push_new H1 ⟨#[97]⟩ 1 (len_small (show (1 : Nat) ≤ 100 by decide)) rfl rfl (by decide) (by decide)).mono ?_; rintro e w2 ⟨rfl, d2, lv2, b2, H2⟩
       have G2 : Qi w.heap.size w2 qb mb lv2 ⟨2, [⟨⟨#[97]⟩, .int .i64 1, 1, false, false, b2⟩], 1, false⟩ := H2
       clear H2)
    | (go_at_call_of 8 (Value.string ⟨#[97]⟩); (with_reducible show Calls _ _ _ w2 _); refine (push_there G2 ⟨#[97]⟩ 2 (len_small (show (1 : Nat) ≤ 100 by decide)) rfl (by simp [hasL])).mono ?_; rintro e w2' ⟨rfl, hw⟩; subst hw)
    | (go_at_call_of 8 (Value.string ⟨#[98]⟩); (with_reducible show Calls _ _ _ w2 _); refine (push_new G2 ⟨#[98]⟩ 2 (len_small (show (1 : Nat) ≤ 100 by decide)) rfl (by simp [hasL]) (show (1 : Nat) < 2 by decide) (show (1 : Nat) < 1000000 by decide)).mono ?_; rintro e w3 ⟨rfl, d3, lv3, b3, H3⟩
       have G3 : Qi w.heap.size w3 qb mb lv3 ⟨2, [⟨⟨#[97]⟩, .int .i64 1, 1, false, false, b2⟩, ⟨⟨#[98]⟩, .int .i64 2, 2, false, false, b3⟩], 2, false⟩ := H3
       clear H3)
    | (go_at_call_of 8 (Value.string ⟨#[99]⟩); (with_reducible show Calls _ _ _ w3 _); refine (push_full G3 ⟨#[99]⟩ 3 (len_small (show (1 : Nat) ≤ 100 by decide)) rfl (by simp [hasL]) (Nat.le_refl 2)).mono ?_; rintro e w4 ⟨rfl, d4, G4⟩)
    | (go_at_call 13; (with_reducible show Calls _ _ _ w4 _); refine (len_q G4).mono ?_; rintro e w4' ⟨rfl, hw⟩; subst hw)
    | (go_at_call_of 9 (Value.string ⟨#[98]⟩); (with_reducible show Calls _ _ _ w4 _); refine (cancel_yes G4 ⟨#[98]⟩ (len_small (show (1 : Nat) ≤ 100 by decide)) (by simp [hasL])).mono ?_; rintro e w5 ⟨rfl, d5, H5⟩
       have G5 : Qi w.heap.size w5 qb mb lv3 ⟨2, [⟨⟨#[97]⟩, .int .i64 1, 1, false, false, b2⟩, ⟨⟨#[98]⟩, .int .i64 2, 2, false, true, b3⟩], 2, false⟩ := by simpa [turn] using H5
       clear H5)
    | (go_at_call_of 9 (Value.string ⟨#[99]⟩); (with_reducible show Calls _ _ _ w5 _); refine (cancel_no G5 ⟨#[99]⟩ (len_small (show (1 : Nat) ≤ 100 by decide)) (by simp [hasL])).mono ?_; rintro e w5' ⟨rfl, hw⟩; subst hw)
    | (go_at_call 10; (with_reducible show Calls _ _ _ w5 _); refine (pop_some G5 (id := ⟨#[97]⟩) (rest := [⟨#[98]⟩]) rfl ⟨⟨#[97]⟩, .int .i64 1, 1, false, false, b2⟩ (List.mem_cons_self ..) rfl 1 rfl).mono ?_; rintro e w6 ⟨rfl, d6, lv6, H6⟩
       have G6 : Qi w.heap.size w6 qb mb lv6 ⟨2, [⟨⟨#[97]⟩, .int .i64 1, 1, true, false, b2⟩, ⟨⟨#[98]⟩, .int .i64 2, 2, false, true, b3⟩], 2, false⟩ := by simpa [turn] using H6
       clear H6)
    | (go_at_call_of 8 (Value.string ⟨#[99]⟩); (with_reducible show Calls _ _ _ w6 _); refine (push_new G6 ⟨#[99]⟩ 3 (len_small (show (1 : Nat) ≤ 100 by decide)) rfl (by simp [hasL]) (show (1 : Nat) < 2 by decide) (show (2 : Nat) < 1000000 by decide)).mono ?_; rintro e w7 ⟨rfl, d7, lv7, b7, H7⟩
       have G7 : Qi w.heap.size w7 qb mb lv7 ⟨2, [⟨⟨#[97]⟩, .int .i64 1, 1, true, false, b2⟩, ⟨⟨#[98]⟩, .int .i64 2, 2, false, true, b3⟩, ⟨⟨#[99]⟩, .int .i64 3, 3, false, false, b7⟩], 3, false⟩ := H7
       clear H7)
    | (go_at_call 19; (with_reducible show Calls _ _ _ w7 _); refine (pending_any G7 (by simp [Rising])).mono ?_; rintro e w8 ⟨pv, rfl, o8, d8⟩
       have G8 := G7.below d8
       have o8' := line_keeps o8 ((Keeps.refl w8 (OfT 9)).alloc (.cells ([⟨#[97]⟩, ⟨#[98]⟩, ⟨#[99]⟩].map Value.string).toArray 9))
       have r8 := abc_row w8 w7.heap.size d8.size [⟨#[97]⟩, ⟨#[98]⟩, ⟨#[99]⟩] (by decide)
       have G8' := G8.below ((Below.refl w8.heap.size w8).alloc (Nat.le_refl _) (.cells ([⟨#[97]⟩, ⟨#[98]⟩, ⟨#[99]⟩].map Value.string).toArray 9)))
    | (go_at_call 15; refine (same_true (xs := [⟨#[97]⟩, ⟨#[98]⟩, ⟨#[99]⟩]) o8' r8 (by decide)).mono ?_; rintro e w9 ⟨rfl, h9, d9⟩
       have G9 := G8'.below d9)
    | (go_at_call_of 11 (Value.string ⟨#[98]⟩); (with_reducible show Calls _ _ _ w9 _); refine (done_wait G9 ⟨⟨#[98]⟩, .int .i64 2, 2, false, true, b3⟩ (by simp) (len_small (show (1 : Nat) ≤ 100 by decide)) rfl).mono ?_; rintro e w9' ⟨rfl, hw⟩; subst hw)
    | (go_at_call_of 11 (Value.string ⟨#[97]⟩); (with_reducible show Calls _ _ _ w9 _); refine (done_yes G9 ⟨⟨#[97]⟩, .int .i64 1, 1, true, false, b2⟩ (by simp) (len_small (show (1 : Nat) ≤ 100 by decide)) rfl).mono ?_; rintro e w10 ⟨rfl, d10, H10⟩
       have G10 : Qi w.heap.size w10 qb mb lv7 ⟨2, [⟨⟨#[98]⟩, .int .i64 2, 2, false, true, b3⟩, ⟨⟨#[99]⟩, .int .i64 3, 3, false, false, b7⟩], 3, false⟩ := by simpa using H10
       clear H10)
    | (go_at_call 10; (with_reducible show Calls _ _ _ w10 _); refine (pop_some G10 (id := ⟨#[98]⟩) (rest := [⟨#[99]⟩]) rfl ⟨⟨#[98]⟩, .int .i64 2, 2, false, true, b3⟩ (List.mem_cons_self ..) rfl 2 rfl).mono ?_; rintro e w11 ⟨rfl, d11, lv11, H11⟩
       have G11 : Qi w.heap.size w11 qb mb lv11 ⟨2, [⟨⟨#[98]⟩, .int .i64 2, 2, true, true, b3⟩, ⟨⟨#[99]⟩, .int .i64 3, 3, false, false, b7⟩], 3, false⟩ := by simpa [turn] using H11
       clear H11)
    | (go_at_call_of 11 (Value.string ⟨#[98]⟩); (with_reducible show Calls _ _ _ w11 _); refine (done_yes G11 ⟨⟨#[98]⟩, .int .i64 2, 2, true, true, b3⟩ (by simp) (len_small (show (1 : Nat) ≤ 100 by decide)) rfl).mono ?_; rintro e w12 ⟨rfl, d12, H12⟩
       have G12 : Qi w.heap.size w12 qb mb lv11 ⟨2, [⟨⟨#[99]⟩, .int .i64 3, 3, false, false, b7⟩], 3, false⟩ := by simpa using H12
       clear H12)
    | (go_at_call_of 9 (Value.string ⟨#[98]⟩); (with_reducible show Calls _ _ _ w12 _); refine (cancel_no G12 ⟨#[98]⟩ (len_small (show (1 : Nat) ≤ 100 by decide)) (by simp [hasL])).mono ?_; rintro e w12' ⟨rfl, hw⟩; subst hw)
    | (go_at_call 21; (with_reducible show Calls _ _ _ w12 _); refine (closed_q G12).mono ?_; rintro e w12' ⟨rfl, hw⟩; subst hw)
    | (go_at_call 14; (with_reducible show Calls _ _ _ w12 _); refine (close_q G12).mono ?_; rintro e w13 ⟨rfl, d13, G13⟩)
    | (go_at_call 21; (with_reducible show Calls _ _ _ w13 _); refine (closed_q G13).mono ?_; rintro e w13' ⟨rfl, hw⟩; subst hw)
    | (go_at_call_of 8 (Value.string ⟨#[100]⟩); (with_reducible show Calls _ _ _ w13 _); refine (push_closed G13 ⟨#[100]⟩ 4 (len_small (show (1 : Nat) ≤ 100 by decide)) rfl).mono ?_; rintro e w13' ⟨rfl, hw⟩; subst hw)
    | (go_at_call 10; (with_reducible show Calls _ _ _ w13 _); refine (pop_some G13 (id := ⟨#[99]⟩) (rest := []) rfl ⟨⟨#[99]⟩, .int .i64 3, 3, false, false, b7⟩ (List.mem_cons_self ..) rfl 3 rfl).mono ?_; rintro e w14 ⟨rfl, d14, lv14, H14⟩
       have G14 : Qi w.heap.size w14 qb mb lv14 ⟨2, [⟨⟨#[99]⟩, .int .i64 3, 3, true, false, b7⟩], 3, true⟩ := by simpa [turn] using H14
       clear H14)
    | (go_at_call 10; (with_reducible show Calls _ _ _ w14 _); refine (pop_none G14 rfl).mono ?_; rintro e w14' ⟨rfl, hw⟩; subst hw)
    | (go_at_call 7; (with_reducible show Calls _ _ _ w14 _); refine (new_q w14 1 (by decide) (by decide)).mono ?_; rintro e w15 ⟨qb2, mb2, rfl, d15, G15⟩
       have Z15 : Zero (w15.alloc (.cells #[.int .i64 0, .slice none 0 0, .map none, .int .i64 0, .bool false] 52)) w15.heap.size := heap_alloc_new w15 _)
    | (go_at_call 10; (with_reducible show Calls _ _ _ w15 _); refine (pop_none G15 rfl).mono ?_; rintro e w15' ⟨rfl, hw⟩; subst hw)
    | (go_at_call_of 10 (Value.pointer none); refine (pop_nilq _).mono ?_; rintro e w16 ⟨rfl, hw⟩; subst hw)
    | (go_at_call_of 8 (Value.pointer none); refine (push_nilq _ _ _).mono ?_; rintro e w16 ⟨rfl, hw⟩; subst hw)
    | (go_at_call_of 13 (Value.pointer none); refine (len_nilq _).mono ?_; rintro e w16 ⟨rfl, hw⟩; subst hw)
    | (go_at_call_of 9 (Value.pointer none); refine (cancel_nilq _ _).mono ?_; rintro e w16 ⟨rfl, hw⟩; subst hw)
    | (go_at_call_of 11 (Value.pointer (some ⟨w15.heap.size, 0, none⟩)); refine (done_zero Z15 _).mono ?_; rintro e w16 ⟨rfl, hw⟩; subst hw)
    | (go_at_call_of 14 (Value.pointer (some ⟨w15.heap.size, 0, none⟩)); refine (close_zero Z15).mono ?_; rintro e w16 ⟨rfl, hw⟩; subst hw)
    | (go_at_call_of 19 (Value.pointer (some ⟨w15.heap.size, 0, none⟩)); refine (pending_zero Z15).mono ?_; rintro e w17 ⟨rfl, d17⟩
       have Z17 : Zero w17 w15.heap.size := (d17.block _ (by simp)).trans Z15)
    | (go_at_call_of 21 (Value.pointer (some ⟨w15.heap.size, 0, none⟩)); (with_reducible show Calls _ _ _ w17 _); refine (closed_zero Z17).mono ?_; rintro e w16 ⟨rfl, hw⟩; subst hw)
    | (go_at_call_of 7 (Value.int .i64 0); refine (new_none _ 0 (.inl (by decide))).mono ?_; rintro e w16 ⟨rfl, hw⟩; subst hw)
    | (go_at_call_of 7 (Value.int .i64 65); refine (new_none _ 65 (.inr (by decide))).mono ?_; rintro e w16 ⟨rfl, hw⟩; subst hw)
    | (go_at_call_of 7 (Value.int .i64 64); (with_reducible show Calls _ _ _ w17 _); refine (new_q w17 64 (by decide) (by decide)).mono ?_; rintro e w18 ⟨qb3, mb3, rfl, d18, G18⟩)
    | (go_at_call 12; refine (awake_true _).mono ?_; rintro e w19 ⟨rfl, d19⟩))
  go_ret
  have D7 := d1.trans (d2.trans (d3.trans (d4.trans (d5.trans (d6.trans d7)))))
  have D8 := D7.trans (d8.mono D7.size)
  have A8 := D8.alloc D8.size (.cells ([⟨#[97]⟩, ⟨#[98]⟩, ⟨#[99]⟩].map Value.string).toArray 9)
  have D14 := (A8.trans (d9.mono A8.size)).trans (d10.trans (d11.trans (d12.trans (d13.trans d14))))
  have D15 := D14.trans (d15.mono D14.size)
  have A15 := D15.alloc D15.size (.cells #[.int .i64 0, .slice none 0 0, .map none, .int .i64 0, .bool false] 52)
  have D17 := A15.trans (d17.mono A15.size)
  have D18 := D17.trans (d18.mono D17.size)
  exact ⟨rfl, D18.trans (d19.mono D18.size)⟩
end Go.Proofs.Ytkejopmohnfpgaa
