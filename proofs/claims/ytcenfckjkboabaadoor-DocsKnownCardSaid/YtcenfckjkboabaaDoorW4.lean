/- emend/utf.units, Byte (the Lines seat's texts with other numbers: printed by port.py). -/
import Derived.Test.YtcenfckjkboabaaDoorShelf
import Derived.Test.YtcenfckjkboabaaDoorPlain2
import Derived.WalkKit
import Derived.WalkSpells
import Derived.WalkLawsBesides
import Derived.Laws.RangeString
import Derived.Laws.RangeAny
import Derived.LoopTactic
import Derived.Lib.Hide
namespace Go.Proofs.YtcenfckjkboabaaDoor
open Go.RowKit Go.Proofs.Utf Go.Lib

theorem units_any (n : Int) (w : World) :
    Calls Tryd.prog 88 #[.int .i32 n] w fun e w' => e = .returned (.int .i64 (if 65535 < n then 2 else 1)) ∧ w' = w := by
  go_enter Tryd.func88, Tryd.ntmps88
  go_wp2
  all_goals go_ret
  all_goals simp [*]
theorem units_nat (r : Nat) (w : World) : Calls Tryd.prog 88 #[.int .i32 r] w fun e w' => e = .returned (.int .i64 (wt r)) ∧ w' = w := by
  refine (units_any r w).mono ?_
  rintro e w' ⟨rfl, rfl⟩
  refine ⟨?_, rfl⟩
  unfold wt
  by_cases h : 65535 < r
  · rw [if_pos h, if_pos (by omega)]; rfl
  · rw [if_neg h, if_neg (by omega)]; rfl

theorem ret_nat {a b : Nat} (h : a = b) : Ending.returned (.int .i64 (a : Int)) = .returned (.int .i64 (b : Int)) := by rw [h]
theorem ret_int {a b : Int} (h : a = b) : Ending.returned (.int .i64 a) = .returned (.int .i64 b) := by rw [h]
theorem below_iter (w : World) (s : ByteArray) (pos : Nat) : Below w.heap.size w (w.iter s pos) := (Below.refl _ _).alloc (Nat.le_refl _) _
set_option maxHeartbeats 400000 in
theorem utfByte_any (s : ByteArray) (want : Int) (w : World) (hs : s.size ≤ 140737488355328) :
    Calls Tryd.prog 72 #[.string s, .int .i64 want] w fun e w' => e = .returned (.int .i64 (byteP (pieces s.data.toList) 0 0 want)) ∧ Below w.heap.size w w' := by
  go_enter Tryd.func72, Tryd.ntmps72
  go_wp2
  go_loopw [5] (fun n w' => ∃ (pos acc : Nat), w' = w.iter s pos ∧ n = .int .i64 acc ∧ byteP (from_ s pos) pos acc want = byteP (pieces s.data.toList) 0 0 want ∧ acc ≤ pos ∧ pos ≤ s.size) (fun _ w' => s.size - w'.iterPos w.heap.size)
  case atStart => exact ⟨0, 0, rfl, rfl, by simp [from_], Nat.le_refl _, Nat.zero_le _⟩
  case round =>
    obtain ⟨pos, acc, rfl, rfl, hc, ha, hp0⟩ := hrel
    have HC := Lib.hid hc
    clear hc
    by_cases hp : pos < s.size
    · have hnx : ∀ ty, (Instr.next (.pointer (some ⟨w.heap.size, 0, none⟩)) true ty).run Tryd.prog (w.iter s pos) = _ := fun ty => run_next_any w s pos ty hp
      have hle := dec_le s pos hp
      have hpos := dec_pos s pos
      have hwt := dec_wt s pos
      have HF := Lib.hid (from_step s pos hp)
      by_cases hg : want < (acc : Int) + (wt (Utf8.decode s pos).1 : Int)
      · go_wp2_with (go_at_call 88; refine (units_nat _ _).mono ?_; rintro e w' ⟨rfl, rfl⟩)
        go_ret
        refine ⟨?_, below_iter _ _ _⟩
        have := HC.out
        rw [HF.out] at this
        simp only [byteP] at this
        rw [if_pos (by omega)] at this
        exact ret_nat this
      · go_wp2_with (go_at_call 88; refine (units_nat _ _).mono ?_; rintro e w' ⟨rfl, rfl⟩)
        go_roundw
        case rel =>
          refine ⟨_, acc + wt (Utf8.decode s pos).1, rfl, by go_num, ?_, by omega, hle⟩
          have := HC.out
          rw [HF.out] at this
          simp only [byteP] at this
          rw [if_neg (by omega)] at this
          exact this
        case measure =>
          simp
          omega
    · have hnx : ∀ ty, (Instr.next (.pointer (some ⟨w.heap.size, 0, none⟩)) true ty).run Tryd.prog (w.iter s pos) = _ := fun ty => run_next_end w s pos ty hp
      obtain rfl : pos = s.size := by omega
      go_wp2
      go_ret
      refine ⟨?_, below_iter _ _ _⟩
      have := HC.out
      rw [from_end s s.size hp] at this
      simp only [byteP] at this
      exact ret_nat this
end Go.Proofs.YtcenfckjkboabaaDoor
