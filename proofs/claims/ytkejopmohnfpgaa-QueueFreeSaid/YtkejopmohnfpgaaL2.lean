/- QueueFree's walk. -/
import Derived.Test.YtkejopmohnfpgaaL1
namespace Go.Proofs.Ytkejopmohnfpgaa
open Go.RowKit Go.Maps Go.Proofs

theorem len_big {n : Nat} (h : n ≤ 140737488355328) : n ≤ maxLen := by unfold maxLen; omega
set_option maxRecDepth 100000 in
set_option maxHeartbeats 1000000 in
theorem free_other (w : World) (id other : ByteArray) (hid : id.size ≤ maxLen) (hot : other.size ≤ maxLen) (hne : other ≠ id) :
    Calls Try.prog 3 #[.string id, .string other] w fun e w' => e = .returned (.bool true) ∧ Below w.heap.size w w' := by
  have hne' : id ≠ other := fun h => hne h.symm
  have hnl : ¬ other.toList = id.toList := fun h => hne (WideShapes.bytes_inj (by rw [← ByteArray.toList_eq, ← ByteArray.toList_eq]; exact h))
  go_enter Try.func3, Try.ntmps3
  go_wp2_with (first
    | (go_at_call 7; (with_reducible show Calls _ _ _ w _); refine (new_q w 3 (by decide) (by decide)).mono ?_; rintro e w1 ⟨qb, mb, rfl, d1, H1⟩)
    | (go_at_call 8; (with_reducible show Calls _ _ _ w1 _); refine (push_new H1 id 1 hid rfl rfl (by decide) (by decide)).mono ?_; rintro e w2 ⟨rfl, d2, lv2, b2, H2⟩
       have G2 : Qi w.heap.size w2 qb mb lv2 ⟨3, [⟨id, .int .i64 1, 1, false, false, b2⟩], 1, false⟩ := H2
       clear H2)
    | (go_at_call_of 8 (Value.int .i64 2); (with_reducible show Calls _ _ _ w2 _); refine (push_there G2 id 2 hid rfl (by simp [hasL])).mono ?_; rintro e w2' ⟨rfl, hw⟩; subst hw)
    | (go_at_call 9; (with_reducible show Calls _ _ _ w2 _); refine (cancel_yes G2 id hid (by simp [hasL])).mono ?_; rintro e w3 ⟨rfl, d3, H3⟩
       have G3 : Qi w.heap.size w3 qb mb lv2 ⟨3, [⟨id, .int .i64 1, 1, false, true, b2⟩], 1, false⟩ := by simpa [turn] using H3
       clear H3)
    | (go_at_call 10; (with_reducible show Calls _ _ _ w3 _); refine (pop_some G3 (id := id) (rest := []) rfl _ (List.mem_singleton.2 rfl) rfl 1 rfl).mono ?_; rintro e w4 ⟨rfl, d4, lv4, H4⟩
       have G4 : Qi w.heap.size w4 qb mb lv4 ⟨3, [⟨id, .int .i64 1, 1, true, true, b2⟩], 1, false⟩ := by simpa [turn] using H4
       clear H4)
    | (go_at_call_of 8 (Value.int .i64 2); (with_reducible show Calls _ _ _ w4 _); refine (push_there G4 id 2 hid rfl (by simp [hasL])).mono ?_; rintro e w4' ⟨rfl, hw⟩; subst hw)
    | (go_at_call 9; (with_reducible show Calls _ _ _ w4 _); refine (cancel_no G4 other hot (by simp [hasL, hne'])).mono ?_; rintro e w4' ⟨rfl, hw⟩; subst hw)
    | (go_at_call_of 8 (Value.int .i64 3); (with_reducible show Calls _ _ _ w4 _); refine (push_new G4 other 3 hot rfl (by simp [hasL, hne']) (show (0 : Nat) < 3 by decide) (show (1 : Nat) < 1000000 by decide)).mono ?_; rintro e w5 ⟨rfl, d5, lv5, b5, H5⟩
       have G5 : Qi w.heap.size w5 qb mb lv5 ⟨3, [⟨id, .int .i64 1, 1, true, true, b2⟩, ⟨other, .int .i64 3, 2, false, false, b5⟩], 2, false⟩ := H5
       clear H5)
    | (go_at_call 11; (with_reducible show Calls _ _ _ w5 _); refine (done_yes G5 ⟨id, .int .i64 1, 1, true, true, b2⟩ (by simp) hid rfl).mono ?_; rintro e w6 ⟨rfl, d6, H6⟩
       have G6 : Qi w.heap.size w6 qb mb lv5 ⟨3, [⟨other, .int .i64 3, 2, false, false, b5⟩], 2, false⟩ := by simpa [hne] using H6
       clear H6)
    | (go_at_call_of 8 (Value.int .i64 4); (with_reducible show Calls _ _ _ w6 _); refine (push_new G6 id 4 hid rfl (by simp [hasL, hne]) (show (1 : Nat) < 3 by decide) (show (2 : Nat) < 1000000 by decide)).mono ?_; rintro e w7 ⟨rfl, d7, lv7, b7, H7⟩
       have G7 : Qi w.heap.size w7 qb mb lv7 ⟨3, [⟨other, .int .i64 3, 2, false, false, b5⟩, ⟨id, .int .i64 4, 3, false, false, b7⟩], 3, false⟩ := H7
       clear H7))
  refine wp_loop_rounds 3 ?_
  rw [rounds_succ]
  go_wp2_with (first
    | (go_at_call 10; (with_reducible show Calls _ _ _ w7 _); refine (pop_some G7 (id := other) (rest := [id]) rfl _ (List.mem_cons_self ..) rfl 3 rfl).mono ?_; rintro e w8 ⟨rfl, d8, lv8, H8⟩
       have G8 : Qi w.heap.size w8 qb mb lv8 ⟨3, [⟨other, .int .i64 3, 2, true, false, b5⟩, ⟨id, .int .i64 4, 3, false, false, b7⟩], 3, false⟩ := by simpa [turn, hne'] using H8
       clear H8))
  rw [rounds_succ]
  go_wp2_with (first
    | (go_at_call 10; (with_reducible show Calls _ _ _ w8 _); refine (pop_some G8 (id := id) (rest := []) rfl ⟨id, .int .i64 4, 3, false, false, b7⟩ (by simp) rfl 4 rfl).mono ?_; rintro e w9 ⟨rfl, d9, lv9, H9⟩
       have G9 : Qi w.heap.size w9 qb mb lv9 ⟨3, [⟨other, .int .i64 3, 2, true, false, b5⟩, ⟨id, .int .i64 4, 3, true, false, b7⟩], 3, false⟩ := by simpa [turn, hne] using H9
       clear H9))
  rw [rounds_succ]
  go_wp2_with (first
    | (go_at_call 11; (with_reducible show Calls _ _ _ w9 _); refine (done_yes G9 ⟨id, .int .i64 4, 3, true, false, b7⟩ (by simp) hid rfl).mono ?_; rintro e w10 ⟨rfl, d10, _⟩)
    | (go_at_call 12; refine (awake_true w10).mono ?_; rintro e w11 ⟨rfl, d11⟩))
  go_ret
  have dd := d1.trans (d2.trans (d3.trans (d4.trans (d5.trans (d6.trans (d7.trans (d8.trans (d9.trans d10))))))))
  exact ⟨rfl, dd.trans (d11.mono dd.size)⟩
set_option maxRecDepth 100000 in
set_option maxHeartbeats 1000000 in
theorem free_same (w : World) (id : ByteArray) (hid : id.size ≤ maxLen) :
    Calls Try.prog 3 #[.string id, .string id] w fun e w' => e = .returned (.bool true) ∧ Below w.heap.size w w' := by
  go_enter Try.func3, Try.ntmps3
  go_wp2_with (first
    | (go_at_call 7; (with_reducible show Calls _ _ _ w _); refine (new_q w 3 (by decide) (by decide)).mono ?_; rintro e w1 ⟨qb, mb, rfl, d1, H1⟩)
    | (go_at_call 8; (with_reducible show Calls _ _ _ w1 _); refine (push_new H1 id 1 hid rfl rfl (by decide) (by decide)).mono ?_; rintro e w2 ⟨rfl, d2, lv2, b2, H2⟩
       have G2 : Qi w.heap.size w2 qb mb lv2 ⟨3, [⟨id, .int .i64 1, 1, false, false, b2⟩], 1, false⟩ := H2
       clear H2)
    | (go_at_call_of 8 (Value.int .i64 2); (with_reducible show Calls _ _ _ w2 _); refine (push_there G2 id 2 hid rfl (by simp [hasL])).mono ?_; rintro e w2' ⟨rfl, hw⟩; subst hw)
    | (go_at_call 9; (with_reducible show Calls _ _ _ w2 _); refine (cancel_yes G2 id hid (by simp [hasL])).mono ?_; rintro e w3 ⟨rfl, d3, H3⟩
       have G3 : Qi w.heap.size w3 qb mb lv2 ⟨3, [⟨id, .int .i64 1, 1, false, true, b2⟩], 1, false⟩ := by simpa [turn] using H3
       clear H3)
    | (go_at_call 10; (with_reducible show Calls _ _ _ w3 _); refine (pop_some G3 (id := id) (rest := []) rfl _ (List.mem_singleton.2 rfl) rfl 1 rfl).mono ?_; rintro e w4 ⟨rfl, d4, lv4, H4⟩
       have G4 : Qi w.heap.size w4 qb mb lv4 ⟨3, [⟨id, .int .i64 1, 1, true, true, b2⟩], 1, false⟩ := by simpa [turn] using H4
       clear H4)
    | (go_at_call_of 8 (Value.int .i64 2); (with_reducible show Calls _ _ _ w4 _); refine (push_there G4 id 2 hid rfl (by simp [hasL])).mono ?_; rintro e w4' ⟨rfl, hw⟩; subst hw)
    | (go_at_call 11; (with_reducible show Calls _ _ _ w4 _); refine (done_yes G4 ⟨id, .int .i64 1, 1, true, true, b2⟩ (by simp) hid rfl).mono ?_; rintro e w6 ⟨rfl, d6, H6⟩
       have G6 : Qi w.heap.size w6 qb mb lv4 ⟨3, [], 1, false⟩ := by simpa using H6
       clear H6)
    | (go_at_call_of 8 (Value.int .i64 4); (with_reducible show Calls _ _ _ w6 _); refine (push_new G6 id 4 hid rfl (by simp [hasL]) (show (0 : Nat) < 3 by decide) (show (1 : Nat) < 1000000 by decide)).mono ?_; rintro e w7 ⟨rfl, d7, lv7, b7, H7⟩
       have G7 : Qi w.heap.size w7 qb mb lv7 ⟨3, [⟨id, .int .i64 4, 2, false, false, b7⟩], 2, false⟩ := H7
       clear H7))
  refine wp_loop_rounds 3 ?_
  rw [rounds_succ]
  go_wp2_with (first
    | (go_at_call 10; (with_reducible show Calls _ _ _ w7 _); refine (pop_some G7 (id := id) (rest := []) rfl _ (List.mem_cons_self ..) rfl 4 rfl).mono ?_; rintro e w8 ⟨rfl, d8, lv8, H8⟩
       have G8 : Qi w.heap.size w8 qb mb lv8 ⟨3, [⟨id, .int .i64 4, 2, true, false, b7⟩], 2, false⟩ := by simpa [turn] using H8
       clear H8))
  rw [rounds_succ]
  go_wp2_with (first
    | (go_at_call 10; (with_reducible show Calls _ _ _ w8 _); refine (pop_none G8 rfl).mono ?_; rintro e w9 ⟨rfl, hw⟩; subst hw))
  rw [rounds_succ]
  go_wp2_with (first
    | (go_at_call 11; (with_reducible show Calls _ _ _ w8 _); refine (done_yes G8 ⟨id, .int .i64 4, 2, true, false, b7⟩ (by simp) hid rfl).mono ?_; rintro e w10 ⟨rfl, d10, _⟩)
    | (go_at_call 12; refine (awake_true w10).mono ?_; rintro e w11 ⟨rfl, d11⟩))
  go_ret
  have dd := d1.trans (d2.trans (d3.trans (d4.trans (d6.trans (d7.trans (d8.trans d10))))))
  exact ⟨rfl, dd.trans (d11.mono dd.size)⟩
theorem law_queueFree (w : World) (id other : ByteArray) (hid : id.size ≤ maxLen) (hot : other.size ≤ maxLen) :
    Calls Try.prog 3 #[.string id, .string other] w fun e w' => e = .returned (.bool true) ∧ Below w.heap.size w w' := by
  by_cases h : other = id
  · subst h; exact free_same w other hid
  · exact free_other w id other hid hot h
end Go.Proofs.Ytkejopmohnfpgaa
