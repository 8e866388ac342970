/- The walks of emend/utf's loops over a text: Units, Byte, UnitsAt. -/
import Derived.Test.YtipbojiialfmeaaW3
import Derived.Lib.Hide
namespace Go.Proofs.Ytipbojiialfmeaa
open Go.RowKit Go.Proofs.Utf Go.Lib

theorem ret_nat {a b : Nat} (h : a = b) : Ending.returned (.int .i64 (a : Int)) = .returned (.int .i64 (b : Int)) := by rw [h]
theorem ret_int {a b : Int} (h : a = b) : Ending.returned (.int .i64 a) = .returned (.int .i64 b) := by rw [h]
theorem below_iter (w : World) (s : ByteArray) (pos : Nat) : Below w.heap.size w (w.iter s pos) := (Below.refl _ _).alloc (Nat.le_refl _) _
set_option maxHeartbeats 400000 in
theorem utfByte_any (s : ByteArray) (want : Int) (w : World) (hs : s.size ≤ 140737488355328) :
    Calls Try.prog 29 #[.string s, .int .i64 want] w fun e w' => e = .returned (.int .i64 (byteP (pieces s.data.toList) 0 0 want)) ∧ Below w.heap.size w w' := by
  go_enter Try.func29, Try.ntmps29
  go_wp2
  go_loopw [5] (fun n w' => ∃ (pos acc : Nat), w' = w.iter s pos ∧ n = .int .i64 acc ∧ byteP (from_ s pos) pos acc want = byteP (pieces s.data.toList) 0 0 want ∧ acc ≤ pos ∧ pos ≤ s.size) (fun _ w' => s.size - w'.iterPos w.heap.size)
  case atStart => exact ⟨0, 0, rfl, rfl, by simp [from_], Nat.le_refl _, Nat.zero_le _⟩
  case round =>
    obtain ⟨pos, acc, rfl, rfl, hc, ha, hp0⟩ := hrel
    have HC := Lib.hid hc
    clear hc
    by_cases hp : pos < s.size
    · have hnx : ∀ ty, (Instr.next (.pointer (some ⟨w.heap.size, 0, none⟩)) true ty).run Try.prog (w.iter s pos) = _ := fun ty => run_next_any w s pos ty hp
      have hle := dec_le s pos hp
      have hpos := dec_pos s pos
      have hwt := dec_wt s pos
      have HF := Lib.hid (from_step s pos hp)
      by_cases hg : want < (acc : Int) + (wt (Utf8.decode s pos).1 : Int)
      · go_wp2_with (go_at_call 36; refine (units_nat _ _).mono ?_; rintro e w' ⟨rfl, rfl⟩)
        go_ret
        refine ⟨?_, below_iter _ _ _⟩
        have := HC.out
        rw [HF.out] at this
        simp only [byteP] at this
        rw [if_pos (by omega)] at this
        exact ret_nat this
      · go_wp2_with (go_at_call 36; refine (units_nat _ _).mono ?_; rintro e w' ⟨rfl, rfl⟩)
        go_roundw
        case rel =>
          refine ⟨_, acc + wt (Utf8.decode s pos).1, rfl, by go_num, ?_, by omega, hle⟩
          have := HC.out
          rw [HF.out] at this
          simp only [byteP] at this
          rw [if_neg (by omega)] at this
          exact this
        case measure =>
          simp
          omega
    · have hnx : ∀ ty, (Instr.next (.pointer (some ⟨w.heap.size, 0, none⟩)) true ty).run Try.prog (w.iter s pos) = _ := fun ty => run_next_end w s pos ty hp
      obtain rfl : pos = s.size := by omega
      go_wp2
      go_ret
      refine ⟨?_, below_iter _ _ _⟩
      have := HC.out
      rw [from_end s s.size hp] at this
      simp only [byteP] at this
      exact ret_nat this
set_option maxHeartbeats 400000 in
theorem utfUnitsAt_any (s : ByteArray) (a : Int) (w : World) (hs : s.size ≤ 140737488355328) :
    Calls Try.prog 30 #[.string s, .int .i64 a] w fun e w' => e = .returned (.int .i64 (uaP (pieces s.data.toList) 0 0 0 a)) ∧ Below w.heap.size w w' := by
  go_enter Try.func30, Try.ntmps30
  go_wp2
  go_loopw [4, 5] (fun n last w' => ∃ (pos acc la : Nat), w' = w.iter s pos ∧ n = .int .i64 acc ∧ last = .int .i64 la ∧ uaP (from_ s pos) pos acc la a = uaP (pieces s.data.toList) 0 0 0 a ∧ acc ≤ pos ∧ la ≤ acc ∧ pos ≤ s.size) (fun _ _ w' => s.size - w'.iterPos w.heap.size)
  case atStart => exact ⟨0, 0, 0, rfl, rfl, rfl, by simp [from_], Nat.le_refl _, Nat.le_refl _, Nat.zero_le _⟩
  case round =>
    obtain ⟨pos, acc, la, rfl, rfl, rfl, hc, ha, hla, hp0⟩ := hrel
    have HC := Lib.hid hc
    clear hc
    by_cases hp : pos < s.size
    · have hnx : ∀ ty, (Instr.next (.pointer (some ⟨w.heap.size, 0, none⟩)) true ty).run Try.prog (w.iter s pos) = _ := fun ty => run_next_any w s pos ty hp
      have hle := dec_le s pos hp
      have hpos := dec_pos s pos
      have hwt := dec_wt s pos
      have HF := Lib.hid (from_step s pos hp)
      by_cases hg : a < (pos : Int)
      · go_wp2
        go_ret
        refine ⟨?_, below_iter _ _ _⟩
        have := HC.out
        rw [HF.out] at this
        simp only [uaP] at this
        rw [if_pos hg] at this
        exact ret_int (by rw [← this]; omega)
      by_cases he : (pos : Int) = a
      · have HE := Lib.hid he
        have he2 : ((pos : Int) == a) = true := by simpa using he
        clear he
        go_wp2
        go_ret
        refine ⟨?_, below_iter _ _ _⟩
        have := HC.out
        rw [HF.out] at this
        simp only [uaP] at this
        rw [if_neg (by omega), if_pos HE.out] at this
        exact ret_nat this
      · have he2 : ((pos : Int) == a) = false := by simpa using he
        go_wp2_with (go_at_call 36; refine (units_nat _ _).mono ?_; rintro e w' ⟨rfl, rfl⟩)
        go_roundw
        case rel =>
          refine ⟨_, acc + wt (Utf8.decode s pos).1, _, rfl, by go_num, rfl, ?_, by omega, by omega, hle⟩
          have := HC.out
          rw [HF.out] at this
          simp only [uaP] at this
          rw [if_neg (by omega), if_neg he] at this
          exact this
        case measure =>
          simp
          omega
    · have hnx : ∀ ty, (Instr.next (.pointer (some ⟨w.heap.size, 0, none⟩)) true ty).run Try.prog (w.iter s pos) = _ := fun ty => run_next_end w s pos ty hp
      obtain rfl : pos = s.size := by omega
      have H := HC.out
      rw [from_end s s.size hp] at H
      simp only [uaP] at H
      by_cases hg : a < (s.size : Int)
      · rw [if_pos hg] at H
        have HH := Lib.hid H
        clear H
        go_wp2
        go_ret
        refine ⟨?_, below_iter _ _ _⟩
        exact ret_int (by rw [← HH.out]; omega)
      · rw [if_neg hg] at H
        have HH := Lib.hid H
        clear H
        go_wp2
        go_ret
        refine ⟨?_, below_iter _ _ _⟩
        exact ret_nat HH.out
end Go.Proofs.Ytipbojiialfmeaa
