/- jtext's broken. -/
import Derived.Test.YtaiaiiepbpbmmaaGreatDoorJ6
import Derived.Test.YtaiaiiepbpbmmaaGreatDoorJA
namespace Go.Proofs.Jt
open Go.RowKit Go.Proofs Go.Lib Go.Proofs.Utf

theorem ret_nat {a b : Nat} (h : a = b) : Ending.returned (.int .i64 (a : Int)) = .returned (.int .i64 (b : Int)) := by rw [h]
set_option maxHeartbeats 1000000 in
set_option maxRecDepth 100000 in
theorem broken_any (s : ByteArray) (w : World) (_hs : s.size ≤ 16777216) :
    Calls Tryz.prog 157 #[.string s] w fun e w' => e = .returned (.int .i64 (br s.data.toList 0 : Nat)) ∧ Below w.heap.size w w' := by
  go_enter Tryz.func157, Tryz.ntmps157
  go_wp2
  go_loopw [] (fun w' => ∃ pos : Nat, w' = w.iter s pos ∧ br (s.data.toList.drop pos) pos = br s.data.toList 0 ∧ pos ≤ s.size) (fun w' => s.size - w'.iterPos w.heap.size)
  case atStart => exact ⟨0, rfl, by simp, Nat.zero_le _⟩
  case round =>
    obtain ⟨pos, rfl, hc, hp0⟩ := hrel
    by_cases hp : pos < s.size
    · have hnx : ∀ ty, (Instr.next (.pointer (some ⟨w.heap.size, 0, none⟩)) true ty).run Tryz.prog (w.iter s pos) = _ := fun ty => run_next_any w s pos ty hp
      have hle := dec_le s pos hp
      have hpos := dec_pos s pos
      have hne : s.data.toList.drop pos ≠ [] := by
        intro e
        have := congrArg List.length e
        rw [List.length_drop, ← Lib.size_eq] at this
        simp at this
        omega
      have hst := br_step _ pos hne
      unfold headW at hst
      rw [decodeL_drop, List.drop_drop] at hst
      have hcp : (decodeL (s.data.toList.drop pos)).1 = 65533 → _ := fun h => fffd_prefix _ hne h
      rw [decodeL_drop] at hcp
      have hpf := Tryz.strings_HasPrefix (s.extract pos s.size) ⟨#[239, 191, 189]⟩
      rw [Lib.extract_to_end] at hpf
      have hno := fun h => (isPt_no (s.data.toList.drop pos) h)
      have hnp : (Utf8.decode s pos).1 ≠ 65533 → isPt (s.data.toList.drop pos) = true := fun h => by
        cases hx : isPt (s.data.toList.drop pos) with
        | true => rfl
        | false =>
          unfold isPt at hx
          have := of_decide_eq_false hx
          rw [decodeL_drop] at this
          exact absurd (Classical.not_not.1 this).1 h
      have HC := Lib.hid hc
      have HS := Lib.hid hst
      clear hc hst hno
      by_cases hr : (Utf8.decode s pos).1 = 65533
      · have tr : (((Utf8.decode s pos).1 : Int) == 65533) = true := by rw [hr]; rfl
        have hcp' := hcp hr
        simp only [] at hpf
        rw [hcp'] at hpf
        clear hcp hcp' hnp hr
        cases hpt : isPt (s.data.toList.drop pos) with
        | true =>
          rw [hpt] at hpf
          go_wp2_with (first
            | (go_at_call 168; refine (hpf _).mono ?_; rintro e w' ⟨rfl, rfl⟩))
          go_roundw
          case rel =>
            refine ⟨pos + (Utf8.decode s pos).2, rfl, ?_, hle⟩
            rw [← HC.out, HS.out, hpt]
            rfl
          case measure =>
            simp
            omega
        | false =>
          rw [hpt] at hpf
          go_wp2_with (first
            | (go_at_call 168; refine (hpf _).mono ?_; rintro e w' ⟨rfl, rfl⟩))
          go_ret
          refine ⟨ret_nat ?_, below_iter _ _ _⟩
          rw [← HC.out, HS.out, hpt]
          rfl
      · have tr : (((Utf8.decode s pos).1 : Int) == 65533) = false := beq_eq_false_iff_ne.2 (by omega)
        have hpt := Lib.hid (hnp hr)
        clear hcp hnp hr hpf
        go_wp2
        go_roundw
        case rel =>
          refine ⟨pos + (Utf8.decode s pos).2, rfl, ?_, hle⟩
          rw [← HC.out, HS.out, hpt.out]
          rfl
        case measure =>
          simp
          omega
    · have hnx : ∀ ty, (Instr.next (.pointer (some ⟨w.heap.size, 0, none⟩)) true ty).run Tryz.prog (w.iter s pos) = _ := fun ty => run_next_end w s pos ty hp
      rw [List.drop_eq_nil_of_le (by rw [← Lib.size_eq]; omega), br_nil] at hc
      have HC := Lib.hid hc
      clear hc
      go_wp2
      go_ret
      refine ⟨ret_nat ?_, below_iter _ _ _⟩
      rw [← HC.out]
      omega
end Go.Proofs.Jt
