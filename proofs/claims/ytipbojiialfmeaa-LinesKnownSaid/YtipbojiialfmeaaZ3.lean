/- LinesKnown's walk. -/
import Derived.Test.YtipbojiialfmeaaZ2
namespace Go.Proofs.Ytipbojiialfmeaa
open Go.RowKit Go.Proofs.Utf Go.Lib

theorem row_true (n : Int) (f t : Nat) (w : World) (h : lineAt (linesL threeB.data.toList) n = some (f, t)) :
    Calls Try.prog 25 #[.int .i64 n, .int .i64 (f : Int), .int .i64 (t : Int)] w fun e w' => e = .returned (.bool true) ∧ Below w.heap.size w w' := by
  go_enter Try.func25, Try.ntmps25
  go_wp2_with (first
    | (go_at_call 24; refine (three_any _).mono ?_; rintro e w' ⟨rfl, hw⟩; rw [hw])
    | (go_at_call 12; refine (line_any _ _ _ three_small).mono ?_; rintro e w1 ⟨rfl, hw1⟩; rw [h]; simp only [lineV]))
  go_ret
  exact ⟨rfl, hw1⟩
theorem r0 (w : World) : Calls Try.prog 25 #[.int .i64 0, .int .i64 0, .int .i64 2] w fun e w' => e = .returned (.bool true) ∧ Below w.heap.size w w' := row_true 0 0 2 w (by decide +kernel)
theorem r1 (w : World) : Calls Try.prog 25 #[.int .i64 1, .int .i64 4, .int .i64 5] w fun e w' => e = .returned (.bool true) ∧ Below w.heap.size w w' := row_true 1 4 5 w (by decide +kernel)
theorem r2 (w : World) : Calls Try.prog 25 #[.int .i64 2, .int .i64 6, .int .i64 6] w fun e w' => e = .returned (.bool true) ∧ Below w.heap.size w w' := row_true 2 6 6 w (by decide +kernel)
theorem r3 (w : World) : Calls Try.prog 25 #[.int .i64 3, .int .i64 7, .int .i64 7] w fun e w' => e = .returned (.bool true) ∧ Below w.heap.size w w' := row_true 3 7 7 w (by decide +kernel)
theorem off_true (s : ByteArray) (hs : s.size < 4294967281) (a b n : Int) (w : World) (h : offP s a b = (n, 0)) :
    Calls Try.prog 26 #[.string s, .int .i64 a, .int .i64 b, .int .i64 n] w fun e w' => e = .returned (.bool true) ∧ Below w.heap.size w w' := by
  go_enter Try.func26, Try.ntmps26
  go_wp2_with (go_at_call 14; refine (offset_any _ _ _ _ hs).mono ?_; rintro e w1 ⟨rfl, hw1⟩; rw [h])
  go_ret
  exact ⟨rfl, hw1⟩
theorem at_true (s : ByteArray) (hs : s.size < 4294967281) (n a b : Int) (w : World) (h : atP s n = (a, b)) :
    Calls Try.prog 27 #[.string s, .int .i64 n, .int .i64 a, .int .i64 b] w fun e w' => e = .returned (.bool true) ∧ Below w.heap.size w w' := by
  go_enter Try.func27, Try.ntmps27
  go_wp2_with (go_at_call 16; refine (at_P _ _ _ hs).mono ?_; rintro e w1 ⟨rfl, hw1⟩; rw [h])
  go_ret
  exact ⟨rfl, hw1⟩
def smileU : ByteArray := ⟨#[97, 240, 159, 152, 128, 98]⟩
theorem emptyB : (linesL (⟨#[]⟩ : ByteArray).data.toList).length = 1 := by decide +kernel
theorem smile_small : smileU.size < 4294967281 := by decide
theorem o0 (w : World) : Calls Try.prog 26 #[.string threeB, .int .i64 0, .int .i64 1, .int .i64 1] w fun e w' => e = .returned (.bool true) ∧ Below w.heap.size w w' := off_true _ three_small _ _ _ w (by decide +kernel)
theorem o1 (w : World) : Calls Try.prog 26 #[.string threeB, .int .i64 0, .int .i64 9, .int .i64 2] w fun e w' => e = .returned (.bool true) ∧ Below w.heap.size w w' := off_true _ three_small _ _ _ w (by decide +kernel)
theorem o2 (w : World) : Calls Try.prog 26 #[.string threeB, .int .i64 1, .int .i64 0, .int .i64 4] w fun e w' => e = .returned (.bool true) ∧ Below w.heap.size w w' := off_true _ three_small _ _ _ w (by decide +kernel)
theorem o3 (w : World) : Calls Try.prog 26 #[.string threeB, .int .i64 3, .int .i64 0, .int .i64 7] w fun e w' => e = .returned (.bool true) ∧ Below w.heap.size w w' := off_true _ three_small _ _ _ w (by decide +kernel)
theorem o4 (w : World) : Calls Try.prog 26 #[.string threeB, .int .i64 9, .int .i64 9, .int .i64 7] w fun e w' => e = .returned (.bool true) ∧ Below w.heap.size w w' := off_true _ three_small _ _ _ w (by decide +kernel)
theorem o5 (w : World) : Calls Try.prog 26 #[.string smileU, .int .i64 0, .int .i64 2, .int .i64 1] w fun e w' => e = .returned (.bool true) ∧ Below w.heap.size w w' := off_true _ smile_small _ _ _ w (by decide +kernel)
theorem o6 (w : World) : Calls Try.prog 26 #[.string smileU, .int .i64 0, .int .i64 3, .int .i64 5] w fun e w' => e = .returned (.bool true) ∧ Below w.heap.size w w' := off_true _ smile_small _ _ _ w (by decide +kernel)
theorem a0 (w : World) : Calls Try.prog 27 #[.string threeB, .int .i64 0, .int .i64 0, .int .i64 0] w fun e w' => e = .returned (.bool true) ∧ Below w.heap.size w w' := at_true _ three_small _ _ _ w (by decide +kernel)
theorem a1 (w : World) : Calls Try.prog 27 #[.string threeB, .int .i64 2, .int .i64 0, .int .i64 2] w fun e w' => e = .returned (.bool true) ∧ Below w.heap.size w w' := at_true _ three_small _ _ _ w (by decide +kernel)
theorem a2 (w : World) : Calls Try.prog 27 #[.string threeB, .int .i64 4, .int .i64 1, .int .i64 0] w fun e w' => e = .returned (.bool true) ∧ Below w.heap.size w w' := at_true _ three_small _ _ _ w (by decide +kernel)
theorem a3 (w : World) : Calls Try.prog 27 #[.string threeB, .int .i64 6, .int .i64 2, .int .i64 0] w fun e w' => e = .returned (.bool true) ∧ Below w.heap.size w w' := at_true _ three_small _ _ _ w (by decide +kernel)
theorem a4 (w : World) : Calls Try.prog 27 #[.string threeB, .int .i64 99, .int .i64 3, .int .i64 0] w fun e w' => e = .returned (.bool true) ∧ Below w.heap.size w w' := at_true _ three_small _ _ _ w (by decide +kernel)
theorem a5 (w : World) : Calls Try.prog 27 #[.string threeB, .int .i64 (-1), .int .i64 0, .int .i64 0] w fun e w' => e = .returned (.bool true) ∧ Below w.heap.size w w' := at_true _ three_small _ _ _ w (by decide +kernel)
theorem a6 (w : World) : Calls Try.prog 27 #[.string smileU, .int .i64 5, .int .i64 0, .int .i64 3] w fun e w' => e = .returned (.bool true) ∧ Below w.heap.size w w' := at_true _ smile_small _ _ _ w (by decide +kernel)
theorem a7 (w : World) : Calls Try.prog 27 #[.string smileU, .int .i64 3, .int .i64 0, .int .i64 1] w fun e w' => e = .returned (.bool true) ∧ Below w.heap.size w w' := at_true _ smile_small _ _ _ w (by decide +kernel)
theorem line4 : lineAt (linesL threeB.data.toList) 4 = none := by decide +kernel
theorem neg1 : offP threeB 0 (-1) = (0, 2) := by decide +kernel
theorem cut1 : cutP threeB 0 1 1 1 = (1, 5, 0) := by decide +kernel
theorem cut2 : cutP threeB 1 0 0 0 = (0, 0, 2) := by decide +kernel

set_option maxRecDepth 1000000 in
set_option maxHeartbeats 8000000 in
theorem law_known (w : World) : Calls Try.prog 8 #[] w fun e w' => e = .returned (.bool true) ∧ Below w.heap.size w w' := by
  have hB : Below w.heap.size w w := Below.refl _ _
  have hsm : (⟨#[97, 240, 159, 152, 128, 98]⟩ : ByteArray) = smileU := rfl
  go_enter Try.func8, Try.ntmps8
  rw [hsm]
  go_wp2_with (first
    | (go_at_call 24; refine (three_any _).mono ?_; rintro e w' ⟨rfl, hw⟩; rw [hw])
    | (go_at_call 12; refine (on_of (fun w => line_any threeB 4 w three_small) (by assumption)).mono ?_; rintro e w1 ⟨rfl, hw1⟩; rw [line4]; simp only [lineV])
    | (go_at_call 10; refine (on_of (fun w => works_any w) (by assumption)).mono ?_; rintro e w2 ⟨rfl, hw2⟩)
    | (go_at_call 13; refine (on_of (fun w => count_any _ w (by decide)) (by assumption)).mono ?_; rintro e w3 ⟨rfl, hw3⟩; rw [emptyB])
    | (go_at_call 25; (with_reducible refine (on_of (fun w => r0 w) (by assumption)).mono ?_); rintro e wr0 ⟨rfl, hr0⟩)
    | (go_at_call 25; (with_reducible refine (on_of (fun w => r1 w) (by assumption)).mono ?_); rintro e wr1 ⟨rfl, hr1⟩)
    | (go_at_call 25; (with_reducible refine (on_of (fun w => r2 w) (by assumption)).mono ?_); rintro e wr2 ⟨rfl, hr2⟩)
    | (go_at_call 25; (with_reducible refine (on_of (fun w => r3 w) (by assumption)).mono ?_); rintro e wr3 ⟨rfl, hr3⟩)
    | (go_at_call 26; (with_reducible refine (on_of (fun w => o0 w) (by assumption)).mono ?_); rintro e wo0 ⟨rfl, ho0⟩)
    | (go_at_call 26; (with_reducible refine (on_of (fun w => o1 w) (by assumption)).mono ?_); rintro e wo1 ⟨rfl, ho1⟩)
    | (go_at_call 26; (with_reducible refine (on_of (fun w => o2 w) (by assumption)).mono ?_); rintro e wo2 ⟨rfl, ho2⟩)
    | (go_at_call 26; (with_reducible refine (on_of (fun w => o3 w) (by assumption)).mono ?_); rintro e wo3 ⟨rfl, ho3⟩)
    | (go_at_call 26; (with_reducible refine (on_of (fun w => o4 w) (by assumption)).mono ?_); rintro e wo4 ⟨rfl, ho4⟩)
    | (go_at_call 26; (with_reducible refine (on_of (fun w => o5 w) (by assumption)).mono ?_); rintro e wo5 ⟨rfl, ho5⟩)
    | (go_at_call 26; (with_reducible refine (on_of (fun w => o6 w) (by assumption)).mono ?_); rintro e wo6 ⟨rfl, ho6⟩)
    | (go_at_call 27; (with_reducible refine (on_of (fun w => a0 w) (by assumption)).mono ?_); rintro e wa0 ⟨rfl, ha0⟩)
    | (go_at_call 27; (with_reducible refine (on_of (fun w => a1 w) (by assumption)).mono ?_); rintro e wa1 ⟨rfl, ha1⟩)
    | (go_at_call 27; (with_reducible refine (on_of (fun w => a2 w) (by assumption)).mono ?_); rintro e wa2 ⟨rfl, ha2⟩)
    | (go_at_call 27; (with_reducible refine (on_of (fun w => a3 w) (by assumption)).mono ?_); rintro e wa3 ⟨rfl, ha3⟩)
    | (go_at_call 27; (with_reducible refine (on_of (fun w => a4 w) (by assumption)).mono ?_); rintro e wa4 ⟨rfl, ha4⟩)
    | (go_at_call 27; (with_reducible refine (on_of (fun w => a5 w) (by assumption)).mono ?_); rintro e wa5 ⟨rfl, ha5⟩)
    | (go_at_call 27; (with_reducible refine (on_of (fun w => a6 w) (by assumption)).mono ?_); rintro e wa6 ⟨rfl, ha6⟩)
    | (go_at_call 27; (with_reducible refine (on_of (fun w => a7 w) (by assumption)).mono ?_); rintro e wa7 ⟨rfl, ha7⟩)
    | (go_at_call 14; refine (on_of (fun w => offset_any threeB 0 (-1) w three_small) (by assumption)).mono ?_; rintro e w4 ⟨rfl, hw4⟩; rw [neg1])
    | (go_at_call 22; (with_reducible refine (on_of (fun w => cut_any threeB 0 1 1 1 w three_small) (by assumption)).mono ?_); rintro e w5 ⟨rfl, hw5⟩; rw [cut1])
    | (go_at_call 22; (with_reducible refine (on_of (fun w => cut_any threeB 1 0 0 0 w three_small) (by assumption)).mono ?_); rintro e w6 ⟨rfl, hw6⟩; rw [cut2]))
  go_ret
  exact ⟨rfl, by assumption⟩
end Go.Proofs.Ytipbojiialfmeaa
