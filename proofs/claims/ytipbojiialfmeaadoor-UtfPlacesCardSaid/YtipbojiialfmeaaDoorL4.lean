/- The walk of the law UtfBack: it returns true. -/
import Derived.Test.YtipbojiialfmeaaDoorL3
namespace Go.Proofs.YtipbojiialfmeaaDoor
open Go.RowKit Go.Proofs.Utf Go.Lib

set_option maxHeartbeats 1000000 in
set_option maxRecDepth 100000 in
theorem law_back (a b : Int) (more : ByteArray) (w : World) (hs : more.size ≤ 140737488355328) (hT : Tabs w) :
    Calls Tryd.prog 9 #[.int .i64 a, .int .i64 b, .string more] w fun e w' => e = .returned (.bool true) ∧ Below w.heap.size w w' := by
  refine ok_start hT fun h0 => ?_
  have c14 := fun w => long_any more w (by omega)
  by_cases hl : 5000 < more.size
  · rw [decide_eq_true hl] at c14
    go_enter Tryd.func9, Tryd.ntmps9
    go_wp2_with (first
      | (go_at_call 14; refine (c14 _).mono ?_; rintro e w' ⟨rfl, rfl⟩)
      | (go_at_call 13; refine (works_any (by assumption)).mono ?_; rintro e w3 ⟨rfl, hw3⟩))
    go_ret
    exact ⟨rfl, by assumption⟩
  rw [decide_eq_false hl] at c14
  by_cases hpa : IsPoint a
  · have c11a : ∀ w, Tabs w → _ := fun w _ => utfEncode_yes a w hpa
    obtain ⟨E, hE⟩ : ∃ E : ByteArray, E = ⟨(encodeRune a).toArray⟩ := ⟨_, rfl⟩
    by_cases hpb : IsPoint b
    · have c11b : ∀ w, Tabs w → _ := fun w _ => utfEncode_yes b w hpb
      obtain ⟨F, hF⟩ : ∃ F : ByteArray, F = ⟨(encodeRune b).toArray⟩ := ⟨_, rfl⟩
      have c28 : ∀ w, Tabs w → Calls Tryd.prog 28 #[.string E, .string F] w fun e w' => e = .returned (.bool (a == b)) ∧ Below w.heap.size w w' := fun w _ => by
        have := Tryd.strings_HasPrefix E F w
        rw [hE, hF] at this
        simp only [Lib.hasPrefix] at this
        rw [enc_prefix a b hpa hpb] at this
        rw [hE, hF]
        exact this.mono fun e w' ⟨he, hw'⟩ => ⟨he, by rw [hw']; exact Below.refl _ _⟩
      have hEl : E.data.toList = encodeRune a := by rw [hE]
      have hEs : E.size = (encodeRune a).length := by rw [Lib.size_eq, hEl]
      obtain ⟨k1, k4, _, _⟩ := enc_hit a hpa []
      rw [← hEs] at k1 k4
      have hh := enc_head a hpa more.data.toList
      have c21 : ∀ w, Tabs w → Calls Tryd.prog 21 #[.string (E ++ more), .int .i64 0] w fun e w' => e = .returned (.tuple #[.int .i64 a, .int .i64 E.size]) ∧ Below w.heap.size w w' := fun w hT => by
        have := utfDecode_in (E ++ more) 0 w (by rw [app_size]; omega) (by rw [app_size]; omega) hT
        rw [List.drop_zero, app_list, hEl, hh.1, hh.2, ← hEs] at this
        exact this
      have c23 : ∀ w, Tabs w → Calls Tryd.prog 23 #[.string E] w fun e w' => e = .returned (.bool true) ∧ Below w.heap.size w w' := fun w hT => by
        have := utfValid_any E w (by omega) hT
        rw [hEl, enc_valid a hpa] at this
        exact this
      rw [← hE] at c11a
      rw [← hF] at c11b
      clear hE hF hEl hEs hh
      go_enter Tryd.func9, Tryd.ntmps9
      go_wp2_with (first
        | (go_at_call 14; refine (c14 _).mono ?_; rintro e w' ⟨rfl, rfl⟩)
        | (go_at_call_of 11 a; refine (ok_of c11a (by assumption)).mono ?_; rintro e w1 ⟨rfl, hw1⟩)
        | (go_at_call_of 11 b; refine (ok_of c11b (by assumption)).mono ?_; rintro e w1 ⟨rfl, hw1⟩)
        | (go_at_call 21; refine (ok_of c21 (by assumption)).mono ?_; rintro e w1 ⟨rfl, hw1⟩)
        | (go_at_call 23; refine (ok_of c23 (by assumption)).mono ?_; rintro e w1 ⟨rfl, hw1⟩)
        | (go_at_call 28; refine (ok_of c28 (by assumption)).mono ?_; rintro e w1 ⟨rfl, hw1⟩)
        | (go_at_call 13; refine (works_any (by assumption)).mono ?_; rintro e w3 ⟨rfl, hw3⟩))
      go_ret
      exact ⟨rfl, by assumption⟩
    · have c11b := fun w => utfEncode_no b w hpb
      rw [← hE] at c11a
      clear hE
      go_enter Tryd.func9, Tryd.ntmps9
      go_wp2_with (first
        | (go_at_call 14; refine (c14 _).mono ?_; rintro e w' ⟨rfl, rfl⟩)
        | (go_at_call_of 11 a; refine (ok_of c11a (by assumption)).mono ?_; rintro e w1 ⟨rfl, hw1⟩)
        | (go_at_call_of 11 b; refine (ok_same c11b (by assumption)).mono ?_; rintro e w1 ⟨rfl, hw1⟩)
        | (go_at_call 13; refine (works_any (by assumption)).mono ?_; rintro e w3 ⟨rfl, hw3⟩))
      go_ret
      exact ⟨rfl, by assumption⟩
  · have c11a := fun w => utfEncode_no a w hpa
    by_cases hpb : IsPoint b
    · have c11b : ∀ w, Tabs w → _ := fun w _ => utfEncode_yes b w hpb
      obtain ⟨F, hF⟩ : ∃ F : ByteArray, F = ⟨(encodeRune b).toArray⟩ := ⟨_, rfl⟩
      rw [← hF] at c11b
      clear hF
      go_enter Tryd.func9, Tryd.ntmps9
      go_wp2_with (first
        | (go_at_call 14; refine (c14 _).mono ?_; rintro e w' ⟨rfl, rfl⟩)
        | (go_at_call_of 11 a; refine (ok_same c11a (by assumption)).mono ?_; rintro e w1 ⟨rfl, hw1⟩)
        | (go_at_call_of 11 b; refine (ok_of c11b (by assumption)).mono ?_; rintro e w1 ⟨rfl, hw1⟩)
        | (go_at_call 13; refine (works_any (by assumption)).mono ?_; rintro e w3 ⟨rfl, hw3⟩))
      go_ret
      exact ⟨rfl, by assumption⟩
    · have c11b := fun w => utfEncode_no b w hpb
      go_enter Tryd.func9, Tryd.ntmps9
      go_wp2_with (first
        | (go_at_call 14; refine (c14 _).mono ?_; rintro e w' ⟨rfl, rfl⟩)
        | (go_at_call_of 11 a; refine (ok_same c11a (by assumption)).mono ?_; rintro e w1 ⟨rfl, hw1⟩)
        | (go_at_call_of 11 b; refine (ok_same c11b (by assumption)).mono ?_; rintro e w1 ⟨rfl, hw1⟩)
        | (go_at_call 13; refine (works_any (by assumption)).mono ?_; rintro e w3 ⟨rfl, hw3⟩))
      go_ret
      exact ⟨rfl, by assumption⟩
end Go.Proofs.YtipbojiialfmeaaDoor
