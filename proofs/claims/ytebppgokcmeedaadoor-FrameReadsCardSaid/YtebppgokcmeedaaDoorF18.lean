/- The reference of frames: number. -/
import Derived.Test.YtebppgokcmeedaaDoorF17
namespace Go.Proofs.Fr
open Go.RowKit Go.Maps Go.Proofs Go.Lib

theorem skip_cons (c : UInt8) (t : List UInt8) : skip (c :: t) = if c = 32 then skip t else c :: t := by
  unfold skip
  rw [List.dropWhile_cons]
  by_cases h : c = 32
  · subst h; rfl
  · rw [if_neg h, if_neg (by simpa using h)]
set_option maxRecDepth 100000 in
set_option maxHeartbeats 4000000 in
theorem number_ref (s : ByteArray) (w : World) (hs : s.size ≤ 16777216) : Calls Tryd.prog 50 #[.string s] w fun e w' => e = .returned (.int .i64 (numV s.data.toList)) ∧ w = w' := by
  obtain ⟨R, hR⟩ : ∃ R, numV s.data.toList = R := ⟨_, rfl⟩
  rw [hR]
  unfold numV at hR
  have HR := Lib.hid hR
  have HZ := Lib.hid (Lib.size_eq s)
  clear hR
  go_enter Tryd.func50, Tryd.ntmps50
  go_wp2
  go_loop [3] (fun v => ∃ k : Nat, v = .int .i64 k ∧ k ≤ s.size ∧ skip s.data.toList = skip (s.data.toList.drop k)) (fun v => s.size - (RowKit.intOf v).toNat)
  case atStart => exact ⟨0, rfl, Nat.zero_le _, by rw [List.drop_zero]⟩
  case round =>
    obtain ⟨k, rfl, hk, hsk⟩ := hrel
    have HS := Lib.hid hsk
    clear hsk
    by_cases hkn : (k : Int) < (s.size : Int)
    · have hks : k < s.size := by omega
      have hd : s.data.toList.drop k = s[k] :: s.data.toList.drop (k + 1) := List.drop_eq_getElem_cons (by rw [← Lib.size_eq]; exact hks)
      by_cases h32 : s[k].toNat = 32
      · have hn : skip s.data.toList = skip (s.data.toList.drop (k + 1)) := by
          rw [HS.out, hd, skip_cons, if_pos (UInt8.toNat_inj.1 h32)]
        have u1 : ((s[k].toNat : Int) == 32) = true := by simp; omega
        have HN := Lib.hid hn
        clear hn hd h32
        go_wp2
        go_round
        case rel => exact ⟨k + 1, by go_num, by omega, HN.out⟩
        case measure => simp [RowKit.intOf]; omega
      · have hD : skip s.data.toList = s.data.toList.drop k := by
          rw [HS.out, hd, skip_cons, if_neg (fun e => h32 (by rw [e]; rfl)), ← hd]
        have u1 : ((s[k].toNat : Int) == 32) = false := by simp; omega
        have hne : s.data.toList.drop k ≠ [] := by rw [hd]; simp
        have hlen : (s.data.toList.drop k).length = s.size - k := by rw [List.length_drop, ← HZ.out]
        have hR2 := HR.out
        rw [hD] at hR2
        have u2 : ((k : Int) == (s.size : Int)) = false := by simp; omega
        clear hd h32 HS
        by_cases h18 : (18 : Int) < (s.size : Int) - (k : Int)
        · have hr : R = -1 := by rw [← hR2, if_pos (.inr (.inl (by omega)))]
          have H1 := Lib.hid hr
          clear hr hR2 hne hlen hD
          go_wp2
          go_ret
          exact ⟨ret_int H1.out.symm, rfl⟩
        · have hall1 : (s.data.toList.drop k).all isDig = false → R = -1 := fun h => by rw [← hR2, if_pos (.inr (.inr h))]
          have hall2 : (s.data.toList.drop k).all isDig = true → R = (decV (s.data.toList.drop k) 0 : Nat) := fun h => by
            rw [← hR2, if_neg]
            rintro (h1 | h1 | h1)
            · exact hne h1
            · omega
            · rw [h] at h1; cases h1
          have h10 : (0 + 1) * 10 ^ (s.data.toList.drop k).length ≤ 10 ^ 18 := by
            rw [Nat.zero_add, Nat.one_mul]
            exact Nat.pow_le_pow_right (by omega) (by omega)
          have A1 := Lib.hid hall1
          have A2 := Lib.hid hall2
          have A3 := Lib.hid h10
          clear hall1 hall2 h10 hR2 hne hlen hD
          go_wp2
          go_loop [3, 4] (fun v u => ∃ j m : Nat, v = .int .i64 j ∧ u = .int .i64 m ∧ j ≤ s.size ∧ (s.data.toList.drop k).all isDig = (s.data.toList.drop j).all isDig ∧ decV (s.data.toList.drop k) 0 = decV (s.data.toList.drop j) m ∧ (m + 1) * 10 ^ (s.data.toList.drop j).length ≤ 10 ^ 18) (fun v _ => s.size - (RowKit.intOf v).toNat)
          case atStart => exact ⟨k, 0, rfl, rfl, hk, rfl, rfl, A3.out⟩
          case round =>
            obtain ⟨j, m, rfl, rfl, hj, ha, hv, hb⟩ := hrel
            have HA := Lib.hid ha
            have HV := Lib.hid hv
            clear ha hv
            by_cases hjn : (j : Int) < (s.size : Int)
            · have hjs : j < s.size := by omega
              have hd : s.data.toList.drop j = s[j] :: s.data.toList.drop (j + 1) := List.drop_eq_getElem_cons (by rw [← Lib.size_eq]; exact hjs)
              have hb2 : (10 * m + 10) * 10 ^ (s.data.toList.drop (j + 1)).length ≤ 10 ^ 18 := by
                rw [hd, List.length_cons, Nat.pow_succ, Nat.mul_comm _ 10, ← Nat.mul_assoc] at hb
                rw [show 10 * m + 10 = (m + 1) * 10 by omega]
                exact hb
              have hm17 : 10 * m + 10 ≤ 10 ^ 18 := Nat.le_trans (Nat.le_mul_of_pos_right _ (Nat.pow_pos (by omega))) hb2
              have m17 : (m : Int) ≤ 99999999999999999 := by omega
              have hallj : (s.data.toList.drop j).all isDig = (isDig s[j] && (s.data.toList.drop (j + 1)).all isDig) := by rw [hd]; rfl
              have hdec : decV (s.data.toList.drop j) m = decV (s.data.toList.drop (j + 1)) (10 * m + (s[j].toNat - 48)) := by rw [hd]; rfl
              have HJ := Lib.hid hallj
              have HDC := Lib.hid hdec
              have HB2 := Lib.hid hb2
              clear hd hallj hdec hb hb2 hm17
              have nod : ¬ (48 ≤ s[j].toNat ∧ s[j].toNat ≤ 57) → R = -1 := fun h => A1.out (by rw [HA.out, HJ.out]; unfold isDig; rw [decide_eq_false h]; rfl)
              by_cases h1 : s[j].toNat < 48
              · have u3 : decide ((s[j].toNat : Int) < 48) = true := by simp; omega
                have hr := nod (by omega)
                have H1 := Lib.hid hr
                clear hr nod h1
                go_wp2
                go_ret
                exact ⟨ret_int H1.out.symm, rfl⟩
              · have u3 : decide ((s[j].toNat : Int) < 48) = false := by simp; omega
                by_cases h2 : 57 < s[j].toNat
                · have u4 : decide ((57 : Int) < (s[j].toNat : Int)) = true := by simp; omega
                  have hr := nod (by omega)
                  have H1 := Lib.hid hr
                  clear hr nod h1 h2
                  go_wp2
                  go_ret
                  exact ⟨ret_int H1.out.symm, rfl⟩
                · have u4 : decide ((57 : Int) < (s[j].toNat : Int)) = false := by simp; omega
                  have b1 : (48 : Int) ≤ (s[j].toNat : Int) := by omega
                  have b2 : (s[j].toNat : Int) ≤ 57 := by omega
                  have hz : 10 * (m : Int) + ((s[j].toNat : Int) - 48) = ((10 * m + (s[j].toNat - 48) : Nat) : Int) := by omega
                  have hdg : isDig s[j] = true := decide_eq_true ⟨by omega, by omega⟩
                  have HG := Lib.hid hdg
                  obtain ⟨q, hq⟩ : ∃ q, 10 * m + (s[j].toNat - 48) = q := ⟨_, rfl⟩
                  have hq2 : q + 1 ≤ 10 * m + 10 := by omega
                  rw [hq] at hz
                  have HQ := Lib.hid hq
                  clear nod h1 h2 hdg hq
                  go_wp2
                  go_round
                  case rel =>
                    refine ⟨j + 1, q, by go_num, rfl, by omega, ?_, ?_, Nat.le_trans (Nat.mul_le_mul_right _ hq2) HB2.out⟩
                    · rw [HA.out, HJ.out, HG.out]; rfl
                    · rw [HV.out, HDC.out, HQ.out]
                  case measure => simp [RowKit.intOf]; omega
            · have hnil : s.data.toList.drop j = [] := List.drop_eq_nil_of_le (by rw [← HZ.out]; omega)
              have hr : R = (m : Int) := by
                rw [A2.out (by rw [HA.out, hnil]; rfl), HV.out, hnil]; rfl
              have H1 := Lib.hid hr
              clear hr hnil hb
              go_wp2
              go_ret
              exact ⟨ret_int H1.out.symm, rfl⟩
    · have hnil : s.data.toList.drop k = [] := List.drop_eq_nil_of_le (by rw [← HZ.out]; omega)
      have h0 : skip s.data.toList = [] := by
        rw [HS.out, hnil]; rfl
      have hr : R = -1 := by rw [← HR.out, if_pos (.inl h0)]
      have hkk : k = s.size := by omega
      have H1 := Lib.hid hr
      clear hr hnil h0
      subst hkk
      go_wp2
      go_ret
      exact ⟨ret_int H1.out.symm, rfl⟩
end Go.Proofs.Fr
