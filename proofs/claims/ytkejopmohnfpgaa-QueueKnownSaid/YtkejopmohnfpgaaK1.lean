/- Queues that are none: the nil one, the zero one. -/
import Derived.Test.YtkejopmohnfpgaaN8
namespace Go.Proofs.Ytkejopmohnfpgaa
open Go.RowKit Go.Maps Go.Proofs

set_option maxRecDepth 100000 in
theorem is_nil (w : World) : Calls Try.prog 22 #[.pointer none] w fun e w' => e = .returned (.bool false) ∧ w = w' := by
  go_enter Try.func22, Try.ntmps22
  go_wp2
  go_ret
  exact ⟨rfl, rfl⟩
set_option maxRecDepth 100000 in
theorem pop_nilq (w : World) : Calls Try.prog 10 #[.pointer none] w fun e w' => e = .returned (.tuple #[.string ⟨#[]⟩, .int .i64 0, .int .i64 1]) ∧ w = w' := by
  go_enter Try.func10, Try.ntmps10
  go_wp2_with (first | (go_at_call 22; refine (is_nil w).mono ?_; rintro e w' ⟨rfl, hw⟩; subst hw))
  go_ret3
  exact ⟨rfl, rfl⟩
set_option maxRecDepth 100000 in
theorem push_nilq (w : World) (id : ByteArray) (x : Int) : Calls Try.prog 8 #[.pointer none, .string id, .int .i64 x] w fun e w' => e = .returned (.int .i64 1) ∧ w = w' := by
  go_enter Try.func8, Try.ntmps8
  go_wp2_with (first | (go_at_call 22; refine (is_nil w).mono ?_; rintro e w' ⟨rfl, hw⟩; subst hw))
  go_ret
  exact ⟨rfl, rfl⟩
set_option maxRecDepth 100000 in
theorem len_nilq (w : World) : Calls Try.prog 13 #[.pointer none] w fun e w' => e = .returned (.int .i64 0) ∧ w = w' := by
  go_enter Try.func13, Try.ntmps13
  go_wp2_with (first | (go_at_call 22; refine (is_nil w).mono ?_; rintro e w' ⟨rfl, hw⟩; subst hw))
  go_ret
  exact ⟨rfl, rfl⟩
set_option maxRecDepth 100000 in
theorem cancel_nilq (w : World) (id : ByteArray) : Calls Try.prog 9 #[.pointer none, .string id] w fun e w' => e = .returned (.bool false) ∧ w = w' := by
  go_enter Try.func9, Try.ntmps9
  go_wp2_with (first | (go_at_call 22; refine (is_nil w).mono ?_; rintro e w' ⟨rfl, hw⟩; subst hw))
  go_ret
  exact ⟨rfl, rfl⟩
def Zero (w : World) (qb : Nat) : Prop := w.heap[qb]? = some (.cells #[.int .i64 0, .slice none 0 0, .map none, .int .i64 0, .bool false] 52 (0, 0))
set_option maxRecDepth 100000 in
theorem is_zero {w : World} {qb : Nat} (h : Zero w qb) : Calls Try.prog 22 #[.pointer (some ⟨qb, 0, none⟩)] w fun e w' => e = .returned (.bool false) ∧ w = w' := by
  have c2 : w.cell? ⟨qb, 2, none⟩ = some (.map none) := qcell h (Keeps.refl _ _) 2 rfl
  go_enter Try.func22, Try.ntmps22
  go_wp2
  go_ret
  exact ⟨rfl, rfl⟩
set_option maxRecDepth 100000 in
theorem done_zero {w : World} {qb : Nat} (h : Zero w qb) (id : ByteArray) : Calls Try.prog 11 #[.pointer (some ⟨qb, 0, none⟩), .string id] w fun e w' => e = .returned (.tuple #[.bool false, .int .i64 1]) ∧ w = w' := by
  go_enter Try.func11, Try.ntmps11
  go_wp2_with (first | (go_at_call 22; refine (is_zero h).mono ?_; rintro e w' ⟨rfl, hw⟩; subst hw))
  go_ret2
  exact ⟨rfl, rfl⟩
set_option maxRecDepth 100000 in
theorem close_zero {w : World} {qb : Nat} (h : Zero w qb) : Calls Try.prog 14 #[.pointer (some ⟨qb, 0, none⟩)] w fun e w' => e = .returned (.int .i64 1) ∧ w = w' := by
  go_enter Try.func14, Try.ntmps14
  go_wp2_with (first | (go_at_call 22; refine (is_zero h).mono ?_; rintro e w' ⟨rfl, hw⟩; subst hw))
  go_ret
  exact ⟨rfl, rfl⟩
set_option maxRecDepth 100000 in
theorem closed_zero {w : World} {qb : Nat} (h : Zero w qb) : Calls Try.prog 21 #[.pointer (some ⟨qb, 0, none⟩)] w fun e w' => e = .returned (.bool false) ∧ w = w' := by
  go_enter Try.func21, Try.ntmps21
  go_wp2_with (first | (go_at_call 22; refine (is_zero h).mono ?_; rintro e w' ⟨rfl, hw⟩; subst hw))
  go_ret
  exact ⟨rfl, rfl⟩
set_option maxRecDepth 100000 in
theorem pending_zero {w : World} {qb : Nat} (h : Zero w qb) : Calls Try.prog 19 #[.pointer (some ⟨qb, 0, none⟩)] w fun e w' => e = .returned (.slice none 0 0) ∧ Below w.heap.size w w' := by
  have h' : Zero (w.alloc (.cells #[.pointer (some ⟨qb, 0, none⟩)] 22)) qb := cells_keeps h ((Keeps.refl _ _).alloc _)
  go_enter Try.func19, Try.ntmps19
  go_wp2_with (first | (go_at_call 22; refine (is_zero h').mono ?_; rintro e w' ⟨rfl, hw⟩; subst hw))
  go_ret
  exact ⟨rfl, (Below.refl _ _).alloc (Nat.le_refl _) _⟩
theorem abc_row (w : World) (B : Nat) (hB : B ≤ w.heap.size) (xs : List ByteArray) (hx : xs.length ≤ 100) :
    (w.alloc (.cells (xs.map Value.string).toArray 9)).ownsRow B 9 1 (.slice (some ⟨w.heap.size, 0, none⟩) xs.length xs.length) xs.length (xs.map Value.string) := by
  refine ⟨by simp, .inr ⟨w.heap.size, xs.length, (xs.map Value.string).toArray, rfl, hB, heap_alloc_new w _, Nat.le_refl _, len_small hx, by simp, ?_⟩⟩
  simp [List.take_of_length_le]
end Go.Proofs.Ytkejopmohnfpgaa
