/- Readers that are none; broken's walk. -/
import Derived.Test.YtebppgokcmeedaaDoorF10
namespace Go.Proofs.Fr
open Go.RowKit Go.Maps Go.Proofs Go.Lib

set_option maxRecDepth 100000 in
theorem state_nil (w : World) : Calls Tryd.prog 24 #[.pointer none] w fun e w' => e = .returned (.int .i64 1) ∧ w = w' := by
  go_enter Tryd.func24, Tryd.ntmps24
  go_wp2
  go_ret
  exact ⟨rfl, rfl⟩
set_option maxRecDepth 100000 in
theorem push_nil (w : World) (s : ByteArray) : Calls Tryd.prog 11 #[.pointer none, .string s] w fun e w' => e = .returned (.int .i64 1) ∧ w = w' := by
  go_enter Tryd.func11, Tryd.ntmps11
  go_wp2_with (first | (go_at_call 24; refine (state_nil _).mono ?_; rintro e w1 ⟨rfl, hw⟩; subst hw))
  go_ret
  exact ⟨rfl, rfl⟩
set_option maxRecDepth 100000 in
theorem held_nil (w : World) : Calls Tryd.prog 15 #[.pointer none] w fun e w' => e = .returned (.int .i64 0) ∧ w = w' := by
  go_enter Tryd.func15, Tryd.ntmps15
  go_wp2_with (first | (go_at_call 24; refine (state_nil _).mono ?_; rintro e w1 ⟨rfl, hw⟩; subst hw))
  go_ret
  exact ⟨rfl, rfl⟩
set_option maxRecDepth 100000 in
theorem next_nil (w : World) : Calls Tryd.prog 13 #[.pointer none] w fun e w' => e = .returned (.tuple #[.string ⟨#[]⟩, .bool false, .int .i64 1]) ∧ Below w.heap.size w w' := by
  go_enter_defers Tryd.func13, Tryd.ntmps13
  go_wp2_with (first | (go_at_call 24; refine (state_nil _).mono ?_; rintro e w1 ⟨rfl, hw⟩; subst hw))
  exact ⟨.tuple #[.string ⟨#[]⟩, .bool false, .int .i64 1], by simp [results, Tryd.results13, go_sem], rfl, ((Below.refl _ _).alloc (Nat.le_refl _) _).alloc (by simp) _⟩
/-- a reader that New has not made -/
def RE (w : World) (b : Nat) : Prop := w.heap[b]? = some (.cells #[.string ⟨#[]⟩, .bool false, .bool false] 54 (0, 0))
theorem RE.lt {w : World} {b : Nat} (r : RE w b) : b < w.heap.size := (Array.getElem?_eq_some_iff.1 r).1
theorem RE.below {w w' : World} {b : Nat} (r : RE w b) (hb : Below w.heap.size w w') : RE w' b := (hb.block b r.lt).trans r
theorem RE.cells {w : World} {b : Nat} (r : RE w b) : w.cell? ⟨b, 0, none⟩ = some (.string ⟨#[]⟩) ∧ w.cell? ⟨b, 1, none⟩ = some (.bool false) ∧ w.cell? ⟨b, 2, none⟩ = some (.bool false) ∧ (∀ o, w.frozen? ⟨b, o, none⟩ = false) := by
  unfold RE at r
  refine ⟨?_, ?_, ?_, fun o => ?_⟩
  · simp [World.cell?, r]
  · simp [World.cell?, r]
  · simp [World.cell?, r]
  · simp [World.frozen?, r]
set_option maxRecDepth 100000 in
theorem state_made (w : World) (b : Nat) (r : RE w b) : Calls Tryd.prog 24 #[.pointer (some ⟨b, 0, none⟩)] w fun e w' => e = .returned (.int .i64 1) ∧ w = w' := by
  obtain ⟨c0, c1, c2, cf⟩ := r.cells
  clear r
  go_enter Tryd.func24, Tryd.ntmps24
  go_wp2
  go_ret
  exact ⟨rfl, rfl⟩
set_option maxRecDepth 100000 in
theorem push_made (w : World) (b : Nat) (s : ByteArray) (r : RE w b) : Calls Tryd.prog 11 #[.pointer (some ⟨b, 0, none⟩), .string s] w fun e w' => e = .returned (.int .i64 1) ∧ w = w' := by
  have hs := state_made w b r
  clear r
  go_enter Tryd.func11, Tryd.ntmps11
  go_wp2_with (first | (go_at_call 24; refine hs.mono ?_; rintro e w1 ⟨rfl, hw⟩; subst hw))
  go_ret
  exact ⟨rfl, rfl⟩
set_option maxRecDepth 100000 in
theorem broken_made (w : World) (b : Nat) (r : RE w b) : Calls Tryd.prog 16 #[.pointer (some ⟨b, 0, none⟩)] w fun e w' => e = .returned (.bool false) ∧ w = w' := by
  have hs := state_made w b r
  clear r
  go_enter Tryd.func16, Tryd.ntmps16
  go_wp2_with (first | (go_at_call 24; refine hs.mono ?_; rintro e w1 ⟨rfl, hw⟩; subst hw))
  go_ret
  exact ⟨rfl, rfl⟩
/-- a text that breaks a reader -/
def Bad (er : Nat) (S : ByteArray) : Prop := S.size ≤ 4000 ∧ nextV S.data.toList = ⟨[], false, er, S.data.toList⟩
set_option maxRecDepth 100000 in
set_option maxHeartbeats 1000000 in
theorem breaks_any (w : World) (hT : MaxV w) (S : ByteArray) (er : Nat) (he : er ≠ 0) (hS : Bad er S) : Calls Tryd.prog 23 #[.string S, .int .i64 (er : Nat)] w fun e w' => e = .returned (.bool true) ∧ Below w.heap.size w w' := by
  obtain ⟨hs, hN⟩ := hS
  have hlt := hT.lt
  have hpu := fun w b r => push_any w b ⟨#[]⟩ S r (by rw [size_mk']; simp only [List.length_nil]; omega)
  have hnx := fun w hw b hb r => next_any w hw b hb S (by omega) r
  simp only [empty_add] at hpu
  simp only [nxVal, hN, decide_eq_true he] at hnx
  clear hN he
  go_enter Tryd.func23, Tryd.ntmps23
  go_wp2_with (first
    | (go_at_call 15; refine (held_any _ _ _ _ r4).mono ?_; rintro e w5 ⟨rfl, hw⟩; subst hw)
    | (go_at_call 11; refine (push_broken _ _ _ _ r4).mono ?_; rintro e w5 ⟨rfl, hw⟩; subst hw)
    | (go_at_call 16; refine (broken_any _ _ _ _ r4).mono ?_; rintro e w5 ⟨rfl, hw⟩; subst hw)
    | (go_at_call 13; refine (next_broken _ _ _ r3).mono ?_; rintro e w4 ⟨rfl, hb4⟩
       have r4 := r3.below hb4
       have b4 := b3.trans (hb4.mono b3.size)
       clear r3)
    | (go_at_call 13; refine (hnx _ (hT.below b2) _ hlt r2).mono ?_; rintro e w3 ⟨rfl, r3, g3⟩
       have b3 := b2.trans (below_gb (Nat.le_refl _) b2.size g3)
       clear r2)
    | (go_at_call 11; refine (hpu _ _ r1).mono ?_; rintro e w2 ⟨rfl, r2, g2⟩
       have b2 := b1.trans (below_gb (Nat.le_refl _) b1.size g2)
       clear r1)
    | (go_at_call 9; refine (new_any _).mono ?_; rintro e w1 ⟨rfl, hw1⟩
       have r1 : RD w1 w.heap.size ⟨#[]⟩ false := (by rw [hw1]; exact RD.new w)
       have b1 : Below w.heap.size w w1 := (by rw [hw1]; exact (Below.refl _ _).alloc (Nat.le_refl _) _)
       clear hw1))
  go_ret
  exact ⟨rfl, b4⟩
end Go.Proofs.Fr
