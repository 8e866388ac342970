/- The reference of frames: stands, ends, lines. -/
import Derived.Test.YtebppgokcmeedaaDoorF10
namespace Go.Proofs.Fr
open Go.RowKit Go.Maps Go.Proofs Go.Lib

/-- does a text stand there? -/
def stB (s x : List UInt8) (i : Nat) : Bool := decide ((s.drop i).take x.length = x)
theorem stB_room {s x : List UInt8} {i : Nat} (h : stB s x i = true) : x.length ≤ s.length - i := by
  have := congrArg List.length (of_decide_eq_true h)
  rw [List.length_take, List.length_drop] at this
  omega
theorem ext_eq (s x : ByteArray) (i : Nat) : ((s.extract i (i + x.size)).toList == x.toList) = stB s.data.toList x.data.toList i := by
  rw [ByteArray.toList_eq, ByteArray.toList_eq, Lib.extract_data, Nat.add_sub_cancel_left]
  unfold stB
  rw [← Lib.size_eq]
  by_cases h : List.take x.size (List.drop i s.data.toList) = x.data.toList
  · rw [decide_eq_true h, h]; simp
  · rw [decide_eq_false h]; simpa using h
set_option maxRecDepth 100000 in
theorem stands_any (s x : ByteArray) (i : Nat) (w : World) (hs : s.size ≤ 16777216) (hx : x.size ≤ 1000) (hx1 : 0 < x.size) (hi : i ≤ 100000000) : Calls Tryd.prog 47 #[.string s, .int .i64 (i : Int), .string x] w fun e w' => e = .returned (.bool (stB s.data.toList x.data.toList i)) ∧ w = w' := by
  obtain ⟨B, hB⟩ : ∃ B, stB s.data.toList x.data.toList i = B := ⟨_, rfl⟩
  rw [hB]
  by_cases hr : (i : Int) + (x.size : Int) ≤ (s.size : Int)
  · have he := ext_eq s x i
    rw [hB] at he
    obtain ⟨E, hE⟩ : ∃ E, s.extract i (i + x.size) = E := ⟨_, rfl⟩
    rw [hE] at he
    have ht : ((i : Int) + (x.size : Int)).toNat = i + x.size := by omega
    have h1 : (i : Int) ≤ (i : Int) + (x.size : Int) := by omega
    have h2 : (0 : Int) ≤ (i : Int) + (x.size : Int) := by omega
    cases B with
    | true =>
      clear hB
      go_enter Tryd.func47, Tryd.ntmps47
      go_wp2
      go_ret
      exact ⟨rfl, rfl⟩
    | false =>
      clear hB
      go_enter Tryd.func47, Tryd.ntmps47
      go_wp2
      go_ret
      exact ⟨rfl, rfl⟩
  · have hf : B = false := by
      cases B with
      | false => rfl
      | true =>
        have := stB_room hB
        rw [← Lib.size_eq, ← Lib.size_eq] at this
        omega
    subst hf
    clear hB
    go_enter Tryd.func47, Tryd.ntmps47
    go_wp2
    go_ret
    exact ⟨rfl, rfl⟩
set_option maxRecDepth 100000 in
theorem ends_any (s : ByteArray) (w : World) (hs : s.size ≤ 16777216) : Calls Tryd.prog 29 #[.string s] w fun e w' => e = .returned (.int .i64 (endAt s.data.toList)) ∧ w = w' := by
  obtain ⟨A, hA⟩ : ∃ A, endAt s.data.toList = A := ⟨_, rfl⟩
  rw [hA]
  have HA := Lib.hid hA
  clear hA
  have hst := fun i (w : World) hi => stands_any s ⟨#[13, 10, 13, 10]⟩ i w hs (by decide) (by decide) hi
  go_enter Tryd.func29, Tryd.ntmps29
  go_wp2
  go_loop [3] (fun v => ∃ i : Nat, v = .int .i64 i ∧ i ≤ 1021 ∧ ∀ j, j < i → (s.data.toList.drop j).take 4 ≠ end4) (fun v => 1021 - (RowKit.intOf v).toNat)
  case atStart => exact ⟨0, rfl, Nat.zero_le _, fun j hj => by omega⟩
  case round =>
    obtain ⟨i, rfl, hi, hno⟩ := hrel
    have HN := Lib.hid hno
    clear hno
    by_cases hlt : (i : Int) + 4 ≤ 1024
    · have hst2 := hst i w (by omega)
      obtain ⟨b, hb⟩ : ∃ b, stB s.data.toList (⟨#[13, 10, 13, 10]⟩ : ByteArray).data.toList i = b := ⟨_, rfl⟩
      rw [hb] at hst2
      cases b with
      | true =>
        have hrm := stB_room hb
        have hlen : (⟨#[13, 10, 13, 10]⟩ : ByteArray).data.toList.length = 4 := rfl
        rw [hlen] at hrm
        have hat : A = (i : Int) := by
          rw [← HA.out]
          exact end_some (by omega) (by omega) (of_decide_eq_true hb) HN.out
        have HT := Lib.hid hat
        clear hb hrm hlen hat
        go_wp2_with (first | (go_at_call 47; refine hst2.mono ?_; rintro e w1 ⟨rfl, hw⟩; subst hw))
        go_ret
        exact ⟨by rw [HT.out]; rfl, rfl⟩
      | false =>
        have hne := of_decide_eq_false hb
        have HE := Lib.hid hne
        clear hb hne
        go_wp2_with (first | (go_at_call 47; refine hst2.mono ?_; rintro e w1 ⟨rfl, hw⟩; subst hw))
        go_round
        case rel => exact ⟨i + 1, by go_num, by omega, fun j hj => by
          by_cases h : j = i
          · subst h; exact HE.out
          · exact HN.out j (by omega)⟩
        case measure => simp [RowKit.intOf]; omega
    · have hat : A = -1 := by
        rw [← HA.out]
        exact end_none fun j h1 _ => HN.out j (by omega)
      have HT := Lib.hid hat
      clear hat
      go_wp2
      go_ret
      exact ⟨by rw [HT.out]; rfl, rfl⟩
end Go.Proofs.Fr
