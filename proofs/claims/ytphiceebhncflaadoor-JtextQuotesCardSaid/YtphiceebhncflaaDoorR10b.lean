/- The walk of the reference's Next at words and numbers. Printed by gen_r10.py. -/
import Derived.Test.YtphiceebhncflaaDoorR10
namespace Go.Proofs.Jt
open Go.RowKit Go.Proofs Go.Lib Go.Proofs.Utf

set_option maxRecDepth 100000 in
set_option maxHeartbeats 4000000 in
theorem next_other (s : ByteArray) (i : Nat) (w : World) (hs : s.size ≤ 16777216) (hi : i < s.size) (hm : isMarkB s[i] = false) (h34 : s[i] ≠ 34) : Calls Tryd.prog 36 #[.string s, .int .i64 i] w (Nx s i w) := by
  have hi' : (i : Int) < (s.size : Int) := by omega
  have hnb := fun w => numbered_any s i w hs (by omega)
  have hn : nextL (s.data.toList.drop i) = if 0 < wordN (s.data.toList.drop i) then some (2, (s.data.toList.drop i).take (wordN (s.data.toList.drop i)), wordN (s.data.toList.drop i)) else if 0 < numN (s.data.toList.drop i) then some (3, (s.data.toList.drop i).take (numN (s.data.toList.drop i)), numN (s.data.toList.drop i)) else none := by
    rw [drop_cons s i hi, nextL_cons, if_neg (by rw [hm]; decide), if_neg h34]
  obtain ⟨m0, m1, m2, m3, m4, m5⟩ := mark_none hm
  have t0 : ((s[i].toNat : Int) == 123) = false := byte_not m0
  have t1 : ((s[i].toNat : Int) == 125) = false := byte_not m1
  have t2 : ((s[i].toNat : Int) == 91) = false := byte_not m2
  have t3 : ((s[i].toNat : Int) == 93) = false := byte_not m3
  have t4 : ((s[i].toNat : Int) == 58) = false := byte_not m4
  have t5 : ((s[i].toNat : Int) == 44) = false := byte_not m5
  have t6 : ((s[i].toNat : Int) == 34) = false := byte_not h34
  have hnA := nAll_eq s.data.toList i
  have hnl := numN_le (s.data.toList.drop i)
  rw [List.length_drop, ← Lib.size_eq] at hnl
  obtain ⟨N, hN⟩ : ∃ N, numN (s.data.toList.drop i) = N := ⟨_, rfl⟩
  rw [hN] at hnA hnl
  simp only [hnA] at hnb
  simp only [hN] at hn
  -- what is answered, by the run of small letters
  have hword : ∀ k, i ≤ k → run isLow (s.data.toList.drop i) = k - i → isWord ((s.data.toList.drop i).take (k - i)) = true → ∀ v, v = .agg #[.int .i64 2, .string (s.extract i k), .int .i64 (i : Nat), .int .i64 (k : Nat)] → nxIs s.data.toList i v := fun k hk hr hw v hv => by
    have hwn : wordN (s.data.toList.drop i) = k - i := by unfold wordN; rw [hr, if_pos hw]
    have hpos : 0 < k - i := by
      rcases Nat.eq_zero_or_pos (k - i) with h | h
      · rw [h, List.take_zero] at hw; exact absurd hw (by decide)
      · exact h
    rw [hwn, if_pos hpos] at hn
    refine nx_some hn ?_
    rw [hv, cut_arr, show i + (k - i) = k by omega]
    rfl
  have hnum : ∀ k, i ≤ k → run isLow (s.data.toList.drop i) = k - i → isWord ((s.data.toList.drop i).take (k - i)) = false → 0 < N → ∀ v, v = .agg #[.int .i64 3, .string (s.extract i (i + N)), .int .i64 (i : Nat), .int .i64 ((i + N : Nat) : Int)] → nxIs s.data.toList i v := fun k hk hr hw hp v hv => by
    have hwn : wordN (s.data.toList.drop i) = 0 := by unfold wordN; rw [hr, if_neg (by rw [hw]; decide)]
    rw [hwn, if_neg (by omega), if_pos hp] at hn
    refine nx_some hn ?_
    rw [hv, cut_arr]
    rfl
  have hnone : ∀ k, i ≤ k → run isLow (s.data.toList.drop i) = k - i → isWord ((s.data.toList.drop i).take (k - i)) = false → ¬ 0 < N → ∀ v, v = .agg #[.int .i64 0, .string ⟨#[]⟩, .int .i64 0, .int .i64 0] → nxIs s.data.toList i v := fun k hk hr hw hp v hv => by
    have hwn : wordN (s.data.toList.drop i) = 0 := by unfold wordN; rw [hr, if_neg (by rw [hw]; decide)]
    rw [hwn, if_neg (by omega), if_neg hp] at hn
    exact nx_none hn hv (by decide)
  have HW := Lib.hid hword
  have HN := Lib.hid hnum
  have HO := Lib.hid hnone
  clear hn hnA hN hword hnum hnone m0 m1 m2 m3 m4 m5 hm h34
  go_enter Tryd.func36, Tryd.ntmps36
  go_wp2_with (fail)
  go_loop [7] (fun v => ∃ k : Nat, v = .int .i64 k ∧ i ≤ k ∧ k ≤ s.size ∧ run isLow (s.data.toList.drop i) = (k - i) + run isLow (s.data.toList.drop k)) (fun v => s.size - (RowKit.intOf v).toNat)
  case atStart => exact ⟨i, rfl, Nat.le_refl _, by omega, by omega⟩
  case round =>
    obtain ⟨k, rfl, hik, hks, hrun⟩ := hrel
    have hra := run_at isLow s.data.toList k
    by_cases hgo : ∃ h : k < s.size, isLow s[k] = true
    · obtain ⟨hk, hl⟩ := hgo
      have hr2 : run isLow (s.data.toList.drop i) = (k + 1 - i) + run isLow (s.data.toList.drop (k + 1)) := by
        rw [list_get s k hk] at hra
        simp only [hl, if_true] at hra
        omega
      have HR := Lib.hid hr2
      unfold isLow at hl
      have hl2 := of_decide_eq_true hl
      have u0 : (k : Int) < (s.size : Int) := by omega
      have u1 : decide ((97 : Int) ≤ (s[k].toNat : Int)) = true := by simp; omega
      have u2 : decide ((s[k].toNat : Int) ≤ 122) = true := by simp; omega
      clear hl hl2 hra hrun hr2 hnb
      go_wp2_with (fail)
      go_round
      case rel => exact ⟨k + 1, by go_num, by omega, by omega, HR.out⟩
      case measure => simp [RowKit.intOf]; omega
    · have hr0 : run isLow (s.data.toList.drop i) = k - i := by
        have : run isLow (s.data.toList.drop k) = 0 := by
          by_cases hk : k < s.size
          · rw [list_get s k hk] at hra
            have hl : isLow s[k] = false := by
              cases h : isLow s[k] with
              | false => rfl
              | true => exact absurd ⟨hk, h⟩ hgo
            simpa [hl] using hra
          · rw [list_none s k hk] at hra
            exact hra
        omega
      have hways : (¬ (k : Int) < (s.size : Int)) ∨ (∃ h : k < s.size, (decide ((97 : Int) ≤ (s[k].toNat : Int)) = false ∨ (decide ((97 : Int) ≤ (s[k].toNat : Int)) = true ∧ decide ((s[k].toNat : Int) ≤ 122) = false))) := by
        by_cases hk : k < s.size
        · right
          refine ⟨hk, ?_⟩
          have hl : ¬ isLow s[k] = true := fun h => hgo ⟨hk, h⟩
          unfold isLow at hl
          rw [decide_eq_true_eq] at hl
          simp only [decide_eq_false_iff_not, decide_eq_true_eq]
          omega
        · left; omega
      have HW2 := Lib.hid (HW.out k hik hr0)
      have HN2 := Lib.hid (HN.out k hik hr0)
      have HO2 := Lib.hid (HO.out k hik hr0)
      have hx : (s.extract i k).toList = (s.data.toList.drop i).take (k - i) := by
        rw [ByteArray.toList_eq, Lib.extract_data]
      clear hra hrun hgo hr0 HW HN HO
      have hways2 : isWord ((s.data.toList.drop i).take (k - i)) = true ∨ isWord ((s.data.toList.drop i).take (k - i)) = false := by cases isWord ((s.data.toList.drop i).take (k - i)) <;> simp
      rcases hways2 with hw | hw
      · have HV := Lib.hid (HW2.out hw)
        rw [← hx] at hw
        unfold isWord at hw
        have hcs := of_decide_eq_true hw
        simp only [wTrue, wFalse, wNull] at hcs
        clear hw HW2 HN2 HO2 hx hnb
        rcases hcs with e1 | e1 | e1 <;> rcases hways with u0 | ⟨hk, u1 | ⟨u1, u2⟩⟩
        all_goals as_aux_lemma =>
          have i0 : (i : Int) ≤ (k : Int) := by omega
          first | (have u0 : (k : Int) < (s.size : Int) := by omega) | skip
          go_wp2_with (fail)
          exact bodyPost_ret (v := .agg #[.int .i64 2, .string (s.extract i k), .int .i64 (i : Nat), .int .i64 (k : Nat)]) (by simp [results, Tryd.results36, go_sem]) rfl ⟨_, rfl, HV.out _ rfl, (Below.refl _ _).alloc (Nat.le_refl _) _⟩
      · have HV := Lib.hid (HN2.out hw)
        have HV2 := Lib.hid (HO2.out hw)
        rw [← hx] at hw
        unfold isWord at hw
        have hcs := of_decide_eq_false hw
        simp only [wTrue, wFalse, wNull] at hcs
        have e1 : ((s.extract i k).toList == [116, 114, 117, 101]) = false := beq_eq_false_iff_ne.2 fun e => hcs (.inl e)
        have e2 : ((s.extract i k).toList == [102, 97, 108, 115, 101]) = false := beq_eq_false_iff_ne.2 fun e => hcs (.inr (.inl e))
        have e3 : ((s.extract i k).toList == [110, 117, 108, 108]) = false := beq_eq_false_iff_ne.2 fun e => hcs (.inr (.inr e))
        clear hw hcs HW2 HN2 HO2 hx
        by_cases hp : 0 < N
        · have HV3 := Lib.hid (HV.out hp)
          have p1 : decide (i < i + N) = true := by simp; omega
          clear HV HV2
          obtain ⟨q, hq⟩ : ∃ q, i + N = q := ⟨_, rfl⟩
          rw [hq] at HV3 p1
          simp only [hq] at hnb
          have q1 : (i : Int) ≤ (q : Int) := by omega
          have q2 : (q : Int) ≤ (s.size : Int) := by omega
          clear hq hp
          rcases hways with u0 | ⟨hk, u1 | ⟨u1, u2⟩⟩
          all_goals
            have i0 : (i : Int) ≤ (k : Int) := by omega
            first | (have u0 : (k : Int) < (s.size : Int) := by omega) | skip
            go_wp2_with (first
              | (go_at_call 60; refine (hnb _).mono ?_; rintro e w1 ⟨rfl, hw⟩; subst hw))
            exact bodyPost_ret (v := .agg #[.int .i64 3, .string (s.extract i q), .int .i64 (i : Nat), .int .i64 (q : Nat)]) (by simp [results, Tryd.results36, go_sem]) rfl ⟨_, rfl, HV3.out _ rfl, (Below.refl _ _).alloc (Nat.le_refl _) _⟩
        · have HV3 := Lib.hid (HV2.out hp)
          have hN0 : N = 0 := by omega
          rw [hN0, Nat.add_zero] at hnb
          have p1 : decide ((i : Int) < (i : Int)) = false := by simp
          clear HV HV2 hp hN0
          rcases hways with u0 | ⟨hk, u1 | ⟨u1, u2⟩⟩
          all_goals
            have i0 : (i : Int) ≤ (k : Int) := by omega
            first | (have u0 : (k : Int) < (s.size : Int) := by omega) | skip
            go_wp2_with (first
              | (go_at_call 60; refine (hnb _).mono ?_; rintro e w1 ⟨rfl, hw⟩; subst hw))
            exact bodyPost_ret (v := .agg #[.int .i64 0, .string ⟨#[]⟩, .int .i64 0, .int .i64 0]) (by simp [results, Tryd.results36, go_sem]) rfl ⟨_, rfl, HV3.out _ rfl, (Below.refl _ _).alloc (Nat.le_refl _) _⟩
/-- what the reference's Next answers -/
theorem next_any (s : ByteArray) (i : Nat) (w : World) (hs : s.size ≤ 16777216) (hi : i < s.size) : Calls Tryd.prog 36 #[.string s, .int .i64 i] w (Nx s i w) := by
  cases hm : isMarkB s[i] with
  | true => exact next_mark s i w hs hi hm
  | false =>
    by_cases h34 : s[i] = 34
    · exact next_str s i w hs hi h34
    · exact next_other s i w hs hi hm h34
end Go.Proofs.Jt
