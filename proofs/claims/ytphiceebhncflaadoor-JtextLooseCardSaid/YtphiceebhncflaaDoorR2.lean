/- The walks of the reference's Step and Broken. -/
import Derived.Test.YtphiceebhncflaaDoorR1
namespace Go.Proofs.Jt
open Go.RowKit Go.Proofs Go.Lib Go.Proofs.Utf

theorem drop_getD (l : List UInt8) (i k : Nat) : (l.drop i).getD k 0 = l.getD (i + k) 0 := by
  rw [List.getD_eq_getElem?_getD, List.getD_eq_getElem?_getD, List.getElem?_drop]
theorem get_getD (s : ByteArray) (i : Nat) (h : i < s.size) : s.data.toList.getD i 0 = s[i] := by
  rw [List.getD_eq_getElem?_getD, list_get s i h]; rfl
set_option maxRecDepth 100000 in
set_option maxHeartbeats 1000000 in
theorem step_any (s : ByteArray) (i : Nat) (w : World) (hs : s.size ≤ 16777216) (hi : i < s.size) : Calls Tryd.prog 58 #[.string s, .int .i64 i] w fun e w' => e = .returned (.int .i64 (stepL (s.data.toList.drop i) : Nat)) ∧ w' = w := by
  have hne : s.data.toList.drop i ≠ [] := by
    intro e
    have := congrArg List.length e
    rw [List.length_drop, ← Lib.size_eq] at this
    simp at this
    omega
  have hb0 : (s.data.toList.drop i).getD 0 0 = s[i] := by rw [drop_getD, Nat.add_zero, get_getD s i hi]
  have hll : (s.data.toList.drop i).length = s.size - i := by rw [List.length_drop, ← Lib.size_eq]
  have hgk : ∀ k, (h : i + k < s.size) → (s.data.toList.drop i).getD k 0 = s[i + k] := fun k h => by rw [drop_getD, get_getD s _ h]
  have hc : s[i].toNat < 256 := s[i].toNat_lt
  by_cases h128 : s[i].toNat < 128
  · have e := step_ascii _ hne (by rw [hb0]; exact h128)
    have t1 : (s[i].toNat : Int) < 128 := by omega
    unfold stepL
    rw [e.1, e.2, if_pos rfl]
    clear e hb0 hll hgk
    go_enter Tryd.func58, Tryd.ntmps58
    go_wp2
    go_ret
    exact ⟨rfl, rfl⟩
  · obtain ⟨c, hcc⟩ : ∃ c, s[i].toNat = c := ⟨_, rfl⟩
    have hy := step_yes (s.data.toList.drop i) c (by rw [hb0]; exact hcc)
    have hn := step_no (s.data.toList.drop i) c hne (by rw [hb0]; exact hcc) (by omega)
    rw [hcc] at h128 hc
    have t1 : ¬ (c : Int) < 128 := by omega
    obtain ⟨r, hr⟩ : ∃ r, stepL (s.data.toList.drop i) = r := ⟨_, rfl⟩
    have hR : (¬ (stN c ≠ 0 ∧ stN c < s.size - i ∧ Conts (s.data.toList.drop i) (stN c) (stLo c) (stHi c)) → r = 0) ∧ ((stN c ≠ 0 ∧ stN c < s.size - i ∧ Conts (s.data.toList.drop i) (stN c) (stLo c) (stHi c)) → r = stN c + 1) := by
      rw [← hr]
      unfold stepL
      rw [hll] at hy hn
      refine ⟨fun h => if_neg fun hp => h (hn hp), fun h => ?_⟩
      have := hy h.1 h.2.1 h.2.2
      rw [if_pos this.1, this.2]
    rw [hr]
    obtain ⟨n, hN⟩ : ∃ n, stN c = n := ⟨_, rfl⟩
    obtain ⟨lo1, hl1⟩ : ∃ n, (if c = 224 then 160 else 128) = n := ⟨_, rfl⟩
    obtain ⟨hi1, hh1⟩ : ∃ n, (if c = 237 then 159 else 191) = n := ⟨_, rfl⟩
    obtain ⟨lo, hl⟩ : ∃ n, stLo c = n := ⟨_, rfl⟩
    obtain ⟨up, hh⟩ : ∃ n, stHi c = n := ⟨_, rfl⟩
    rw [hN, hl, hh] at hR
    have hn3 : n ≤ 3 := by rw [← hN]; unfold stN; (repeat' split) <;> omega
    have HN := Lib.hid hN
    have HL1 := Lib.hid hl1
    have HH1 := Lib.hid hh1
    have HL := Lib.hid hl
    have HH := Lib.hid hh
    have HR := Lib.hid hR
    clear hy hn hr hb0 hll hN hl1 hh1 hl hh hR
    go_enter Tryd.func58, Tryd.ntmps58
    go_upto_block 0 with (fail)
    simp only [hcc] at *
    go_cut [7] (fun v wx => v = .int .i64 n ∧ w = wx)
    case first =>
      rcases (show (194 ≤ c ∧ c ≤ 223) ∨ (224 ≤ c ∧ c ≤ 239) ∨ (240 ≤ c ∧ c ≤ 244) ∨ c < 194 ∨ 244 < c by omega) with hp | hp | hp | hp | hp
      · have hv : stN c = 1 := by unfold stN; (repeat' split) <;> omega
        have HV := Lib.hid hv
        clear hv
        have u1 : decide ((194 : Int) ≤ (c : Int)) = true := by simp; omega
        have u2 : decide ((c : Int) ≤ 223) = true := by simp; omega
        go_wp2_with (fail)
        go_meet
        exact ⟨by rw [← HN.out, HV.out]; rfl, rfl⟩
      · have hv : stN c = 2 := by unfold stN; (repeat' split) <;> omega
        have HV := Lib.hid hv
        clear hv
        have u1 : decide ((194 : Int) ≤ (c : Int)) = true := by simp; omega
        have u2 : decide ((c : Int) ≤ 223) = false := by simp; omega
        have u3 : decide ((224 : Int) ≤ (c : Int)) = true := by simp; omega
        have u4 : decide ((c : Int) ≤ 239) = true := by simp; omega
        go_wp2_with (fail)
        go_meet
        exact ⟨by rw [← HN.out, HV.out]; rfl, rfl⟩
      · have hv : stN c = 3 := by unfold stN; (repeat' split) <;> omega
        have HV := Lib.hid hv
        clear hv
        have u1 : decide ((194 : Int) ≤ (c : Int)) = true := by simp; omega
        have u2 : decide ((c : Int) ≤ 223) = false := by simp; omega
        have u3 : decide ((224 : Int) ≤ (c : Int)) = true := by simp; omega
        have u4 : decide ((c : Int) ≤ 239) = false := by simp; omega
        have u5 : decide ((240 : Int) ≤ (c : Int)) = true := by simp; omega
        have u6 : decide ((c : Int) ≤ 244) = true := by simp; omega
        go_wp2_with (fail)
        go_meet
        exact ⟨by rw [← HN.out, HV.out]; rfl, rfl⟩
      · have hv : stN c = 0 := by unfold stN; (repeat' split) <;> omega
        have HV := Lib.hid hv
        clear hv
        have u1 : decide ((194 : Int) ≤ (c : Int)) = false := by simp; omega
        have u3 : decide ((224 : Int) ≤ (c : Int)) = false := by simp; omega
        have u5 : decide ((240 : Int) ≤ (c : Int)) = false := by simp; omega
        go_wp2_with (fail)
        go_meet
        exact ⟨by rw [← HN.out, HV.out]; rfl, rfl⟩
      · have hv : stN c = 0 := by unfold stN; (repeat' split) <;> omega
        have HV := Lib.hid hv
        clear hv
        have u1 : decide ((194 : Int) ≤ (c : Int)) = true := by simp; omega
        have u2 : decide ((c : Int) ≤ 223) = false := by simp; omega
        have u3 : decide ((224 : Int) ≤ (c : Int)) = true := by simp; omega
        have u4 : decide ((c : Int) ≤ 239) = false := by simp; omega
        have u5 : decide ((240 : Int) ≤ (c : Int)) = true := by simp; omega
        have u6 : decide ((c : Int) ≤ 244) = false := by simp; omega
        go_wp2_with (fail)
        go_meet
        exact ⟨by rw [← HN.out, HV.out]; rfl, rfl⟩
    case rest =>
      obtain ⟨rfl, rfl⟩ := hcut
      go_upto_if 40 with (fail)
      go_cut [5] (fun v wx => v = .int .i64 (lo1 : Nat) ∧ w = wx)
      case first =>
        by_cases e0 : c = 224
        · have u1 : ((c : Int) == 224) = true := by rw [e0]; rfl
          have E0 := Lib.hid e0
          clear e0
          go_wp2_with (fail)
          go_meet
          exact ⟨by rw [← HL1.out]; rw [if_pos E0.out]; rfl, rfl⟩
        · have u1 : ((c : Int) == 224) = false := beq_eq_false_iff_ne.2 (by omega)
          have E0 := Lib.hid e0
          clear e0
          go_wp2_with (fail)
          go_meet
          exact ⟨by rw [← HL1.out]; rw [if_neg E0.out]; rfl, rfl⟩
      case rest =>
      obtain ⟨rfl, rfl⟩ := hcut
      go_upto_if 42 with (fail)
      go_cut [6] (fun v wx => v = .int .i64 (hi1 : Nat) ∧ w = wx)
      case first =>
        by_cases e0 : c = 237
        · have u1 : ((c : Int) == 237) = true := by rw [e0]; rfl
          have E0 := Lib.hid e0
          clear e0
          go_wp2_with (fail)
          go_meet
          exact ⟨by rw [← HH1.out]; rw [if_pos E0.out]; rfl, rfl⟩
        · have u1 : ((c : Int) == 237) = false := beq_eq_false_iff_ne.2 (by omega)
          have E0 := Lib.hid e0
          clear e0
          go_wp2_with (fail)
          go_meet
          exact ⟨by rw [← HH1.out]; rw [if_neg E0.out]; rfl, rfl⟩
      case rest =>
      obtain ⟨rfl, rfl⟩ := hcut
      go_upto_if 44 with (fail)
      go_cut [5] (fun v wx => v = .int .i64 (lo : Nat) ∧ w = wx)
      case first =>
        by_cases e0 : c = 240
        · have u1 : ((c : Int) == 240) = true := by rw [e0]; rfl
          have E0 := Lib.hid e0
          clear e0
          go_wp2_with (fail)
          go_meet
          exact ⟨by rw [← HL.out]; unfold stLo; rw [if_pos E0.out]; rfl, rfl⟩
        · have u1 : ((c : Int) == 240) = false := beq_eq_false_iff_ne.2 (by omega)
          have E0 := Lib.hid e0
          clear e0
          go_wp2_with (fail)
          go_meet
          exact ⟨by rw [← HL.out]; unfold stLo; rw [if_neg E0.out]; rw [HL1.out], rfl⟩
      case rest =>
      obtain ⟨rfl, rfl⟩ := hcut
      go_upto_if 46 with (fail)
      go_cut [6] (fun v wx => v = .int .i64 (up : Nat) ∧ w = wx)
      case first =>
        by_cases e0 : c = 244
        · have u1 : ((c : Int) == 244) = true := by rw [e0]; rfl
          have E0 := Lib.hid e0
          clear e0
          go_wp2_with (fail)
          go_meet
          exact ⟨by rw [← HH.out]; unfold stHi; rw [if_pos E0.out]; rfl, rfl⟩
        · have u1 : ((c : Int) == 244) = false := beq_eq_false_iff_ne.2 (by omega)
          have E0 := Lib.hid e0
          clear e0
          go_wp2_with (fail)
          go_meet
          exact ⟨by rw [← HH.out]; unfold stHi; rw [if_neg E0.out]; rw [HH1.out], rfl⟩
      case rest =>
      obtain ⟨rfl, rfl⟩ := hcut
      have i16 : (i : Int) ≤ 16777216 := by omega
      by_cases hn0 : n = 0
      · have u1 : ((n : Int) == 0) = true := by rw [hn0]; rfl
        have hr : r = 0 := HR.out.1 fun h => h.1 hn0
        clear hn0
        go_wp2
        go_ret
        exact ⟨ret_int (by omega), rfl⟩
      · have u1 : ((n : Int) == 0) = false := beq_eq_false_iff_ne.2 (by omega)
        by_cases hlen : i + n < s.size
        · have u2 : decide ((s.size : Int) ≤ (i : Int) + (n : Int)) = false := by simp; omega
          go_wp2
          go_loopw [5, 6, 9] (fun a b v wr => ∃ k : Nat, a = .int .i64 ((if k = 1 then lo else 128 : Nat) : Nat) ∧ b = .int .i64 ((if k = 1 then up else 191 : Nat) : Nat) ∧ v = .int .i64 k ∧ 1 ≤ k ∧ k ≤ n + 1 ∧ (∀ j, 1 ≤ j → j < k → (if j = 1 then lo else 128) ≤ ((s.data.toList.drop i).getD j 0).toNat ∧ ((s.data.toList.drop i).getD j 0).toNat ≤ (if j = 1 then up else 191)) ∧ wr = w) (fun _ _ v _ => n + 1 - (RowKit.intOf v).toNat)
          case atStart => exact ⟨1, rfl, rfl, rfl, by omega, by omega, fun j h1 h2 => by omega, rfl⟩
          case round =>
            obtain ⟨k, rfl, rfl, rfl, hk1, hkn, hall, rfl⟩ := hrel
            have HALL := Lib.hid hall
            clear hall
            by_cases hk : (k : Int) ≤ (n : Int)
            · have hlt : i + k < s.size := by omega
              have hg := hgk k hlt
              obtain ⟨lk, hlk⟩ : ∃ x, (if k = 1 then lo else 128) = x := ⟨_, rfl⟩
              obtain ⟨uk, huk⟩ : ∃ x, (if k = 1 then up else 191) = x := ⟨_, rfl⟩
              simp only [hlk, huk]
              have HLK := Lib.hid hlk
              have HUK := Lib.hid huk
              have HG := Lib.hid hg
              have e2 : (if k + 1 = 1 then lo else 128) = 128 := if_neg (by omega)
              have e3 : (if k + 1 = 1 then up else 191) = 191 := if_neg (by omega)
              have E2 := Lib.hid e2
              have E3 := Lib.hid e3
              have hd0 : s[i + k].toNat < 256 := s[i + k].toNat_lt
              clear hlk huk hg e2 e3 hgk
              by_cases h1 : s[i + k].toNat < lk
              · have v1 : decide (s[i + k].toNat < lk) = true := by simp; omega
                have hr : r = 0 := HR.out.1 fun h => by
                  have := h.2.2 k (by omega) (by omega)
                  rw [HG.out, HLK.out] at this
                  omega
                clear h1
                go_wp2
                go_ret
                exact ⟨ret_int (by omega), rfl⟩
              · have v1 : decide (s[i + k].toNat < lk) = false := by simp; omega
                by_cases h2 : uk < s[i + k].toNat
                · have v2 : decide (uk < s[i + k].toNat) = true := by simp; omega
                  have hr : r = 0 := HR.out.1 fun h => by
                    have := h.2.2 k (by omega) (by omega)
                    rw [HG.out, HUK.out] at this
                    omega
                  clear h1 h2
                  go_wp2
                  go_ret
                  exact ⟨ret_int (by omega), rfl⟩
                · have v2 : decide (uk < s[i + k].toNat) = false := by simp; omega
                  have H1 := Lib.hid h1
                  have H2 := Lib.hid h2
                  clear h1 h2
                  go_wp2
                  refine ⟨⟨k + 1, by rw [E2.out]; rfl, by rw [E3.out]; rfl, by go_num, by omega, by omega, fun j j1 j2 => ?_, trivial⟩, by simp [RowKit.intOf]; omega⟩
                  by_cases hjk : j = k
                  · subst hjk
                    have a1 := H1.out
                    have a2 := H2.out
                    rw [HG.out, HLK.out, HUK.out]
                    omega
                  · exact HALL.out j j1 (by omega)
            · have hr : r = n + 1 := HR.out.2 ⟨hn0, by omega, fun j h1 h2 => HALL.out j h1 (by omega)⟩
              clear hgk
              go_wp2
              go_ret
              exact ⟨ret_int (by omega), rfl⟩
        · have u2 : decide ((s.size : Int) ≤ (i : Int) + (n : Int)) = true := by simp; omega
          have hr : r = 0 := HR.out.1 fun h => by omega
          clear hlen
          go_wp2
          go_ret
          exact ⟨ret_int (by omega), rfl⟩
end Go.Proofs.Jt
