/- The walks of frame.head's two function values. -/
import Derived.Test.YtebppgokcmeedaaDoorF2
namespace Go.Proofs.Fr
open Go.RowKit Go.Proofs Go.Lib

/-- a block of one number -/
def One (w : World) (b : Nat) (n : Int) : Prop := w.heap[b]? = some (.cells #[.int .i64 n] 3 (0, 0))
theorem One.lt {w : World} {b : Nat} {n : Int} (r : One w b n) : b < w.heap.size := (Array.getElem?_eq_some_iff.1 r).1
theorem One.kept {w w' : World} {b : Nat} {n : Int} (r : One w b n) {row : Option Nat} (hg : w.grownBy w' row) (hne : some b ≠ row) : One w' b n := (hg.block b r.lt hne).trans r
theorem One.below {w w' : World} {b : Nat} {n : Int} (r : One w b n) (hb : Below w.heap.size w w') : One w' b n := (hb.block b r.lt).trans r
theorem One.cell {w : World} {b : Nat} {n : Int} (r : One w b n) : w.cell? ⟨b, 0, none⟩ = some (.int .i64 n) ∧ w.frozen? ⟨b, 0, none⟩ = false := by
  unfold One at r
  exact ⟨by simp [World.cell?, r], by simp [World.frozen?, r]⟩
theorem One.set {w : World} {b : Nat} {n : Int} (r : One w b n) (m : Int) : One (w.setCell ⟨b, 0, none⟩ (.int .i64 m)) b m := by
  obtain ⟨hlt, hk⟩ := Array.getElem?_eq_some_iff.1 r
  show (w.heap.modify b _)[b]? = _
  rw [Array.getElem?_eq_getElem (by rw [Array.size_modify]; exact hlt), Array.getElem_modify_self, hk]
  rfl
theorem bool_and {a b : Bool} (c : Bool) (h : (a && b) = c) : Ending.returned (.bool (a && b)) = .returned (.bool c) := by rw [h]
set_option maxRecDepth 100000 in
theorem says_len (v : ByteArray) (nb : Nat) (n : Int) (w : World) (hs : v.size ≤ 16777216) (r : One w nb n) : Calls Tryd.prog 40 #[.string v, .pointer (some ⟨nb, 0, none⟩)] w fun e w' => e = .returned (.bool (decide (n = -1 ∧ numV v.data.toList ≠ -1))) ∧ One w' nb (numV v.data.toList) ∧ w.grownBy w' (some nb) := by
  have hl := fun w => length_any v w hs
  obtain ⟨m, hm⟩ : ∃ m, numV v.data.toList = m := ⟨_, rfl⟩
  rw [hm]
  simp only [hm] at hl
  clear hm
  have c0 := r.cell.1
  have R := Lib.hid r
  clear r
  by_cases h1 : n = -1
  · subst h1
    by_cases h2 : m = -1
    · subst h2
      rw [decide_eq_false (by simp)]
      go_enter Tryd.func40, Tryd.ntmps40
      go_wp2_with (first
        | (go_at_call 41; refine (hl _).mono ?_; rintro e w1 ⟨rfl, hb⟩
           have r1 := R.out.below hb
           have d0 := r1.cell.1
           have d1 := r1.cell.2
           have R1 := Lib.hid r1
           clear r1))
      go_ret
      exact ⟨rfl, R1.out.set _, (gb_below hb).trans (gb_set _ _ _ _)⟩
    · have u2 : (m != -1) = true := by simpa using h2
      rw [decide_eq_true ⟨rfl, h2⟩]
      clear h2
      go_enter Tryd.func40, Tryd.ntmps40
      go_wp2_with (first
        | (go_at_call 41; refine (hl _).mono ?_; rintro e w1 ⟨rfl, hb⟩
           have r1 := R.out.below hb
           have d0 := r1.cell.1
           have d1 := r1.cell.2
           have R1 := Lib.hid r1
           clear r1))
      go_ret
      exact ⟨rfl, R1.out.set _, (gb_below hb).trans (gb_set _ _ _ _)⟩
  · have u1 : (n == -1) = false := by simpa using h1
    rw [decide_eq_false (fun h => h1 h.1)]
    clear h1
    go_enter Tryd.func40, Tryd.ntmps40
    go_wp2_with (first
      | (go_at_call 41; refine (hl _).mono ?_; rintro e w1 ⟨rfl, hb⟩
         have r1 := R.out.below hb
         have d0 := r1.cell.1
         have d1 := r1.cell.2
         have R1 := Lib.hid r1
         clear r1))
    go_ret
    exact ⟨rfl, R1.out.set _, (gb_below hb).trans (gb_set _ _ _ _)⟩
set_option maxRecDepth 100000 in
theorem says_typ (v : ByteArray) (nb : Nat) (k : Nat) (w : World) (hs : v.size ≤ 16777216) (hk : k ≤ 16777216) (r : One w nb k) : Calls Tryd.prog 42 #[.string v, .pointer (some ⟨nb, 0, none⟩)] w fun e w' => e = .returned (.bool (decide (k = 0 ∧ plainB v.data.toList = true))) ∧ One w' nb ((k + 1 : Nat) : Int) ∧ w.grownBy w' (some nb) := by
  have hl := fun w => plain_any v w hs
  obtain ⟨m, hm⟩ : ∃ m, plainB v.data.toList = m := ⟨_, rfl⟩
  rw [hm]
  simp only [hm] at hl
  clear hm
  have c0 := r.cell.1
  have c1 := r.cell.2
  have R := Lib.hid r
  clear r
  by_cases h1 : k = 0
  · subst h1
    have he : decide (0 = 0 ∧ m = true) = m := by cases m <;> simp
    rw [he]
    clear he
    go_enter Tryd.func42, Tryd.ntmps42
    go_wp2_with (first
      | (go_at_call 43; refine (hl _).mono ?_; rintro e w1 ⟨rfl, hw⟩; subst hw))
    go_ret
    exact ⟨rfl, R.out.set _, gb_set _ _ _ _⟩
  · have u1 : (((k : Int) + 1) == 1) = false := beq_eq_false_iff_ne.2 (by omega)
    rw [decide_eq_false (fun h => h1 h.1)]
    clear h1
    go_enter Tryd.func42, Tryd.ntmps42
    go_wp2
    go_ret
    exact ⟨rfl, R.out.set _, gb_set _ _ _ _⟩
end Go.Proofs.Fr
