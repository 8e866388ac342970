/- The reference's Name, Words, Reserved, Dir. Printed by gen_d2.py. -/
import Derived.Test.YtcenfckjkboabaaDoorD1
namespace Go.Proofs.Dc
open Go.RowKit Go.Proofs Go.Lib

set_option maxRecDepth 100000 in
set_option maxHeartbeats 4000000 in
theorem rname_any (s : ByteArray) (w : World) (hs : s.size ≤ 140737488355328) : Calls Tryd.prog 31 #[.string s] w fun e w' => e = .returned (.bool (nameB s.data.toList)) ∧ w = w' := by
  obtain ⟨N, hN⟩ : ∃ N, nameB s.data.toList = N := ⟨_, rfl⟩
  rw [hN]
  unfold nameB at hN
  have hsl := Lib.size_eq s
  by_cases h0 : s.data.toList = []
  · have hz : s.size = 0 := by rw [hsl, h0]; rfl
    have u0 : ((s.size : Int) == 0) = true := by rw [hz]; rfl
    have hn : N = false := by rw [← hN, decide_eq_false (by rintro ⟨h, _⟩; exact h h0)]; rfl
    subst hn
    clear hN h0 hsl hz
    go_enter Tryd.func31, Tryd.ntmps31
    go_wp2
    go_ret
    exact ⟨rfl, rfl⟩
  have hpos : 0 < s.size := by
    rw [hsl]
    exact List.length_pos_iff.2 h0
  have u0 : ((s.size : Int) == 0) = false := beq_eq_false_iff_ne.2 (by omega)
  by_cases h2 : (40 : Int) < (s.size : Int)
  · have hn : N = false := by rw [← hN, decide_eq_false (by rintro ⟨_, _, h⟩; omega)]; rfl
    subst hn
    clear hN h0 hsl hpos
    go_enter Tryd.func31, Tryd.ntmps31
    go_wp2
    go_ret
    exact ⟨rfl, rfl⟩
  by_cases h1 : s.data.toList = [95]
  · have u1 : (s.toList == [95]) = true := by rw [ByteArray.toList_eq, h1]; rfl
    have hn : N = false := by rw [← hN, decide_eq_false (by rintro ⟨_, h, _⟩; exact h h1)]; rfl
    subst hn
    clear hN h0 h1 hsl hpos
    go_enter Tryd.func31, Tryd.ntmps31
    go_wp2
    go_ret
    exact ⟨rfl, rfl⟩
  have u1 : (s.toList == [95]) = false := by rw [ByteArray.toList_eq]; simpa using h1
  rw [decide_eq_true ⟨h0, h1, by omega⟩, Bool.true_and] at hN
  have bad : ∀ (k : Nat) (hk : k < s.size), okAt k s[k] = false → N = false := fun k hk h => by
    rw [← hN]
    cases ha : allOk s.data.toList with
    | false => rfl
    | true =>
      have := allOk_iff.1 ha k _ (list_get s k hk)
      rw [h] at this
      cases this
  have good : (∀ j c, j < s.size → s.data.toList[j]? = some c → okAt j c = true) → N = true := fun h => by
    rw [← hN]
    exact allOk_iff.2 fun i c hc => h i c (by rw [hsl]; exact (List.getElem?_eq_some_iff.1 hc).1) hc
  have BAD := Lib.hid bad
  have GOOD := Lib.hid good
  clear bad good hN h0 h1 hsl hpos
  go_enter Tryd.func31, Tryd.ntmps31
  go_wp2
  go_loop [3] (fun v => ∃ k : Nat, v = .int .i64 k ∧ k ≤ s.size ∧ ∀ j c, j < k → s.data.toList[j]? = some c → okAt j c = true) (fun v => s.size - (RowKit.intOf v).toNat)
  case atStart => exact ⟨0, rfl, Nat.zero_le _, fun j c h => by omega⟩
  case round =>
    obtain ⟨k, rfl, hk, hg⟩ := hrel
    have HG := Lib.hid hg
    clear hg
    by_cases hkn : (k : Int) < (s.size : Int)
    · have hks : k < s.size := by omega
      have hnext : okAt k s[k] = true → ∀ j c, j < k + 1 → s.data.toList[j]? = some c → okAt j c = true := fun h j c hj hc => by
        by_cases e : j = k
        · subst e
          rw [list_get s j hks] at hc
          rw [← Option.some.inj hc]; exact h
        · exact HG.out j c (by omega) hc
      have hbad := BAD.out k hks
      have hcl : (65 ≤ s[k].toNat ∧ s[k].toNat ≤ 90) ∨ (s[k].toNat = 95) ∨ (97 ≤ s[k].toNat ∧ s[k].toNat ≤ 122) ∨ (s[k].toNat < 48) ∨ (48 ≤ s[k].toNat ∧ s[k].toNat ≤ 57) ∨ (58 ≤ s[k].toNat ∧ s[k].toNat ≤ 64) ∨ (91 ≤ s[k].toNat ∧ s[k].toNat ≤ 96 ∧ s[k].toNat ≠ 95) ∨ (123 ≤ s[k].toNat) := by omega
      rcases hcl with h | h | h | h | h | h | h | h
      · have hL : letB s[k] = true := by unfold letB; exact decide_eq_true (by omega)
        have u3 : decide ((65 : Int) ≤ (s[k].toNat : Int)) = true := decide_eq_true (by omega)
        have u4 : decide ((s[k].toNat : Int) ≤ 90) = true := decide_eq_true (by omega)
        have u5 : decide ((97 : Int) ≤ (s[k].toNat : Int)) = false := decide_eq_false (by omega)
        have u6 : decide ((s[k].toNat : Int) ≤ 122) = true := decide_eq_true (by omega)
        have u7 : ((s[k].toNat : Int) == 95) = false := beq_eq_false_iff_ne.2 (by omega)
        have u8 : decide ((s[k].toNat : Int) < 48) = false := decide_eq_false (by omega)
        have u9 : decide ((57 : Int) < (s[k].toNat : Int)) = true := decide_eq_true (by omega)
        have HN := Lib.hid (hnext (by unfold okAt; rw [hL]; rfl))
        clear hnext hbad hL h
        go_wp2
        go_round
        case rel => exact ⟨k + 1, by go_num, by omega, HN.out⟩
        case measure => simp [RowKit.intOf]; omega
      · have hL : letB s[k] = true := by unfold letB; exact decide_eq_true (by omega)
        have u3 : decide ((65 : Int) ≤ (s[k].toNat : Int)) = true := decide_eq_true (by omega)
        have u4 : decide ((s[k].toNat : Int) ≤ 90) = false := decide_eq_false (by omega)
        have u5 : decide ((97 : Int) ≤ (s[k].toNat : Int)) = false := decide_eq_false (by omega)
        have u6 : decide ((s[k].toNat : Int) ≤ 122) = true := decide_eq_true (by omega)
        have u7 : ((s[k].toNat : Int) == 95) = true := beq_iff_eq.2 (by omega)
        have u8 : decide ((s[k].toNat : Int) < 48) = false := decide_eq_false (by omega)
        have u9 : decide ((57 : Int) < (s[k].toNat : Int)) = true := decide_eq_true (by omega)
        have HN := Lib.hid (hnext (by unfold okAt; rw [hL]; rfl))
        clear hnext hbad hL h
        go_wp2
        go_round
        case rel => exact ⟨k + 1, by go_num, by omega, HN.out⟩
        case measure => simp [RowKit.intOf]; omega
      · have hL : letB s[k] = true := by unfold letB; exact decide_eq_true (by omega)
        have u3 : decide ((65 : Int) ≤ (s[k].toNat : Int)) = true := decide_eq_true (by omega)
        have u4 : decide ((s[k].toNat : Int) ≤ 90) = false := decide_eq_false (by omega)
        have u5 : decide ((97 : Int) ≤ (s[k].toNat : Int)) = true := decide_eq_true (by omega)
        have u6 : decide ((s[k].toNat : Int) ≤ 122) = true := decide_eq_true (by omega)
        have u7 : ((s[k].toNat : Int) == 95) = false := beq_eq_false_iff_ne.2 (by omega)
        have u8 : decide ((s[k].toNat : Int) < 48) = false := decide_eq_false (by omega)
        have u9 : decide ((57 : Int) < (s[k].toNat : Int)) = true := decide_eq_true (by omega)
        have HN := Lib.hid (hnext (by unfold okAt; rw [hL]; rfl))
        clear hnext hbad hL h
        go_wp2
        go_round
        case rel => exact ⟨k + 1, by go_num, by omega, HN.out⟩
        case measure => simp [RowKit.intOf]; omega
      · have hL : letB s[k] = false := by unfold letB; exact decide_eq_false (by omega)
        have u3 : decide ((65 : Int) ≤ (s[k].toNat : Int)) = false := decide_eq_false (by omega)
        have u4 : decide ((s[k].toNat : Int) ≤ 90) = true := decide_eq_true (by omega)
        have u5 : decide ((97 : Int) ≤ (s[k].toNat : Int)) = false := decide_eq_false (by omega)
        have u6 : decide ((s[k].toNat : Int) ≤ 122) = true := decide_eq_true (by omega)
        have u7 : ((s[k].toNat : Int) == 95) = false := beq_eq_false_iff_ne.2 (by omega)
        have u8 : decide ((s[k].toNat : Int) < 48) = true := decide_eq_true (by omega)
        have u9 : decide ((57 : Int) < (s[k].toNat : Int)) = false := decide_eq_false (by omega)
        by_cases hk0 : k = 0
        · have hn := hbad (by unfold okAt; rw [hL]; simp [hk0])
          have u2 : ((k : Int) == 0) = true := beq_iff_eq.2 (by omega)
          subst hn
          clear hnext hbad hL h hk0
          go_wp2
          go_ret
          exact ⟨rfl, rfl⟩
        · have u2 : ((k : Int) == 0) = false := beq_eq_false_iff_ne.2 (by omega)
          have hk1 : (k != 0) = true := by simpa using hk0
          have hn := hbad (by unfold okAt digB; rw [hL, hk1, decide_eq_false (by omega)]; rfl)
          subst hn
          clear hnext hbad hL h hk0 hk1
          go_wp2
          go_ret
          exact ⟨rfl, rfl⟩
      · have hL : letB s[k] = false := by unfold letB; exact decide_eq_false (by omega)
        have u3 : decide ((65 : Int) ≤ (s[k].toNat : Int)) = false := decide_eq_false (by omega)
        have u4 : decide ((s[k].toNat : Int) ≤ 90) = true := decide_eq_true (by omega)
        have u5 : decide ((97 : Int) ≤ (s[k].toNat : Int)) = false := decide_eq_false (by omega)
        have u6 : decide ((s[k].toNat : Int) ≤ 122) = true := decide_eq_true (by omega)
        have u7 : ((s[k].toNat : Int) == 95) = false := beq_eq_false_iff_ne.2 (by omega)
        have u8 : decide ((s[k].toNat : Int) < 48) = false := decide_eq_false (by omega)
        have u9 : decide ((57 : Int) < (s[k].toNat : Int)) = false := decide_eq_false (by omega)
        by_cases hk0 : k = 0
        · have hn := hbad (by unfold okAt; rw [hL]; simp [hk0])
          have u2 : ((k : Int) == 0) = true := beq_iff_eq.2 (by omega)
          subst hn
          clear hnext hbad hL h hk0
          go_wp2
          go_ret
          exact ⟨rfl, rfl⟩
        · have u2 : ((k : Int) == 0) = false := beq_eq_false_iff_ne.2 (by omega)
          have hk1 : (k != 0) = true := by simpa using hk0
          have HN := Lib.hid (hnext (by unfold okAt digB; rw [hL, hk1, decide_eq_true ⟨by omega, by omega⟩]; rfl))
          clear hnext hbad hL h hk0 hk1
          go_wp2
          go_round
          case rel => exact ⟨k + 1, by go_num, by omega, HN.out⟩
          case measure => simp [RowKit.intOf]; omega
      · have hL : letB s[k] = false := by unfold letB; exact decide_eq_false (by omega)
        have u3 : decide ((65 : Int) ≤ (s[k].toNat : Int)) = false := decide_eq_false (by omega)
        have u4 : decide ((s[k].toNat : Int) ≤ 90) = true := decide_eq_true (by omega)
        have u5 : decide ((97 : Int) ≤ (s[k].toNat : Int)) = false := decide_eq_false (by omega)
        have u6 : decide ((s[k].toNat : Int) ≤ 122) = true := decide_eq_true (by omega)
        have u7 : ((s[k].toNat : Int) == 95) = false := beq_eq_false_iff_ne.2 (by omega)
        have u8 : decide ((s[k].toNat : Int) < 48) = false := decide_eq_false (by omega)
        have u9 : decide ((57 : Int) < (s[k].toNat : Int)) = true := decide_eq_true (by omega)
        by_cases hk0 : k = 0
        · have hn := hbad (by unfold okAt; rw [hL]; simp [hk0])
          have u2 : ((k : Int) == 0) = true := beq_iff_eq.2 (by omega)
          subst hn
          clear hnext hbad hL h hk0
          go_wp2
          go_ret
          exact ⟨rfl, rfl⟩
        · have u2 : ((k : Int) == 0) = false := beq_eq_false_iff_ne.2 (by omega)
          have hk1 : (k != 0) = true := by simpa using hk0
          have hn := hbad (by unfold okAt digB; rw [hL, hk1, decide_eq_false (by omega)]; rfl)
          subst hn
          clear hnext hbad hL h hk0 hk1
          go_wp2
          go_ret
          exact ⟨rfl, rfl⟩
      · have hL : letB s[k] = false := by unfold letB; exact decide_eq_false (by omega)
        have u3 : decide ((65 : Int) ≤ (s[k].toNat : Int)) = true := decide_eq_true (by omega)
        have u4 : decide ((s[k].toNat : Int) ≤ 90) = false := decide_eq_false (by omega)
        have u5 : decide ((97 : Int) ≤ (s[k].toNat : Int)) = false := decide_eq_false (by omega)
        have u6 : decide ((s[k].toNat : Int) ≤ 122) = true := decide_eq_true (by omega)
        have u7 : ((s[k].toNat : Int) == 95) = false := beq_eq_false_iff_ne.2 (by omega)
        have u8 : decide ((s[k].toNat : Int) < 48) = false := decide_eq_false (by omega)
        have u9 : decide ((57 : Int) < (s[k].toNat : Int)) = true := decide_eq_true (by omega)
        by_cases hk0 : k = 0
        · have hn := hbad (by unfold okAt; rw [hL]; simp [hk0])
          have u2 : ((k : Int) == 0) = true := beq_iff_eq.2 (by omega)
          subst hn
          clear hnext hbad hL h hk0
          go_wp2
          go_ret
          exact ⟨rfl, rfl⟩
        · have u2 : ((k : Int) == 0) = false := beq_eq_false_iff_ne.2 (by omega)
          have hk1 : (k != 0) = true := by simpa using hk0
          have hn := hbad (by unfold okAt digB; rw [hL, hk1, decide_eq_false (by omega)]; rfl)
          subst hn
          clear hnext hbad hL h hk0 hk1
          go_wp2
          go_ret
          exact ⟨rfl, rfl⟩
      · have hL : letB s[k] = false := by unfold letB; exact decide_eq_false (by omega)
        have u3 : decide ((65 : Int) ≤ (s[k].toNat : Int)) = true := decide_eq_true (by omega)
        have u4 : decide ((s[k].toNat : Int) ≤ 90) = false := decide_eq_false (by omega)
        have u5 : decide ((97 : Int) ≤ (s[k].toNat : Int)) = true := decide_eq_true (by omega)
        have u6 : decide ((s[k].toNat : Int) ≤ 122) = false := decide_eq_false (by omega)
        have u7 : ((s[k].toNat : Int) == 95) = false := beq_eq_false_iff_ne.2 (by omega)
        have u8 : decide ((s[k].toNat : Int) < 48) = false := decide_eq_false (by omega)
        have u9 : decide ((57 : Int) < (s[k].toNat : Int)) = true := decide_eq_true (by omega)
        by_cases hk0 : k = 0
        · have hn := hbad (by unfold okAt; rw [hL]; simp [hk0])
          have u2 : ((k : Int) == 0) = true := beq_iff_eq.2 (by omega)
          subst hn
          clear hnext hbad hL h hk0
          go_wp2
          go_ret
          exact ⟨rfl, rfl⟩
        · have u2 : ((k : Int) == 0) = false := beq_eq_false_iff_ne.2 (by omega)
          have hk1 : (k != 0) = true := by simpa using hk0
          have hn := hbad (by unfold okAt digB; rw [hL, hk1, decide_eq_false (by omega)]; rfl)
          subst hn
          clear hnext hbad hL h hk0 hk1
          go_wp2
          go_ret
          exact ⟨rfl, rfl⟩
    · have hn := GOOD.out fun j c hj hc => HG.out j c (by omega) hc
      subst hn
      go_wp2
      go_ret
      exact ⟨rfl, rfl⟩
end Go.Proofs.Dc
