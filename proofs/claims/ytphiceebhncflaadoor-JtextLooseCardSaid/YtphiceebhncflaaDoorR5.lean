/- The walk of the reference's hex. -/
import Derived.Test.YtphiceebhncflaaDoorR4
import Derived.Test.YtphiceebhncflaaDoorJq
namespace Go.Proofs.Jt
open Go.RowKit Go.Proofs Go.Lib Go.Proofs.Utf

theorem hexV_le (c : UInt8) : hexV c ≤ 15 := by unfold hexV; (repeat' split) <;> omega
def hvP (g : Nat → UInt8) : Nat → Int
  | 0 => 0
  | k + 1 => 16 * hvP g k + hexV (g (k + 1))
theorem hvP_bound (g : Nat → UInt8) : ∀ k, k ≤ 4 → (∀ j, 1 ≤ j → j ≤ k → 0 ≤ hexV (g j)) → 0 ≤ hvP g k ∧ hvP g k ≤ 65535
  | 0, _, _ => by simp [hvP]
  | 1, _, h => by have a := h 1 (by omega) (by omega); have b := hexV_le (g 1); simp [hvP]; omega
  | 2, _, h => by have a := h 1 (by omega) (by omega); have b := hexV_le (g 1); have a2 := h 2 (by omega) (by omega); have b2 := hexV_le (g 2); simp [hvP]; omega
  | 3, _, h => by have a := h 1 (by omega) (by omega); have b := hexV_le (g 1); have a2 := h 2 (by omega) (by omega); have b2 := hexV_le (g 2); have a3 := h 3 (by omega) (by omega); have b3 := hexV_le (g 3); simp [hvP]; omega
  | 4, _, h => by have a := h 1 (by omega) (by omega); have b := hexV_le (g 1); have a2 := h 2 (by omega) (by omega); have b2 := hexV_le (g 2); have a3 := h 3 (by omega) (by omega); have b3 := hexV_le (g 3); have a4 := h 4 (by omega) (by omega); have b4 := hexV_le (g 4); simp [hvP]; omega
  | k + 5, h, _ => by omega
theorem unit_less (l : List UInt8) (h : ¬ (isAt l 0 117 = true ∧ 4 < l.length)) : unitL l = -1 := by
  match l with
  | u :: a :: b :: c :: d :: t =>
    rw [unitL_cons, if_neg]
    intro hu
    exact h ⟨by simp [isAt, hu.1], by simp⟩
  | [] => rfl
  | [_] => rfl
  | [_, _] => rfl
  | [_, _, _] => rfl
  | [_, _, _, _] => rfl
theorem unit_no (l : List UInt8) (k : Nat) (h1 : 1 ≤ k) (h4 : k ≤ 4) (h : hexV (l.getD k 0) < 0) : unitL l = -1 := by
  match l with
  | u :: a :: b :: c :: d :: t =>
    rw [unitL_cons, if_neg]
    rintro ⟨_, g1, g2, g3, g4⟩
    rcases (show k = 1 ∨ k = 2 ∨ k = 3 ∨ k = 4 by omega) with rfl | rfl | rfl | rfl <;> simp at h <;> omega
  | [] => rfl
  | [_] => rfl
  | [_, _] => rfl
  | [_, _, _] => rfl
  | [_, _, _, _] => rfl
theorem unit_yes (l : List UInt8) (h0 : isAt l 0 117 = true) (hl : 4 < l.length) (h : ∀ j, 1 ≤ j → j ≤ 4 → 0 ≤ hexV (l.getD j 0)) : unitL l = hvP (fun j => l.getD j 0) 4 := by
  obtain ⟨u, a, b, c, d, t, rfl⟩ := five hl
  have hu : u = 117 := by simpa [isAt] using h0
  have a1 := h 1 (by omega) (by omega)
  have a2 := h 2 (by omega) (by omega)
  have a3 := h 3 (by omega) (by omega)
  have a4 := h 4 (by omega) (by omega)
  simp at a1 a2 a3 a4
  rw [unitL_cons, if_pos ⟨hu, a1, a2, a3, a4⟩]
  simp [hvP]
  omega
theorem hexV_dig (c : UInt8) (h1 : 48 ≤ c.toNat) (h2 : c.toNat ≤ 57) : hexV c = (c.toNat : Int) - 48 := by unfold hexV; rw [if_pos ⟨h1, h2⟩]
theorem hexV_low2 (c : UInt8) (h1 : 97 ≤ c.toNat) (h2 : c.toNat ≤ 102) : hexV c = (c.toNat : Int) - 97 + 10 := by unfold hexV; rw [if_neg (by omega), if_pos ⟨h1, h2⟩]; omega
theorem hexV_up (c : UInt8) (h1 : 65 ≤ c.toNat) (h2 : c.toNat ≤ 70) : hexV c = (c.toNat : Int) - 65 + 10 := by unfold hexV; rw [if_neg (by omega), if_neg (by omega), if_pos ⟨h1, h2⟩]; omega
theorem hexV_none (c : UInt8) (h1 : ¬ (48 ≤ c.toNat ∧ c.toNat ≤ 57)) (h2 : ¬ (97 ≤ c.toNat ∧ c.toNat ≤ 102)) (h3 : ¬ (65 ≤ c.toNat ∧ c.toNat ≤ 70)) : hexV c = -1 := by unfold hexV; rw [if_neg h1, if_neg h2, if_neg h3]
set_option maxRecDepth 100000 in
set_option maxHeartbeats 1000000 in
theorem hex_any (s : ByteArray) (i : Nat) (w : World) (hs : s.size ≤ 16777216) (hi : i ≤ s.size) : Calls Tryd.prog 95 #[.string s, .int .i64 i] w fun e w' => e = .returned (.int .i64 (unitL (s.data.toList.drop i))) ∧ w' = w := by
  have h117 : ∀ (i : Nat) w, Calls Tryd.prog 81 #[.string s, .int .i64 i, .int .u8 117] w fun e w' => e = .returned (.bool (isAt s.data.toList i 117)) ∧ w = w' := fun i w => (is_any s i 117 w hs).mono fun _ _ h => ⟨h.1, h.2.symm⟩
  have hll : (s.data.toList.drop i).length = s.size - i := by rw [List.length_drop, ← Lib.size_eq]
  have hia : isAt (s.data.toList.drop i) 0 117 = isAt s.data.toList i 117 := by unfold isAt; rw [List.getElem?_drop]; rfl
  have hgk : ∀ k, (h : i + k < s.size) → (s.data.toList.drop i).getD k 0 = s[i + k] := fun k h => by rw [drop_getD, get_getD s _ h]
  have hno := unit_less (s.data.toList.drop i)
  have hbad := unit_no (s.data.toList.drop i)
  have hyes := unit_yes (s.data.toList.drop i)
  rw [hia, hll] at hno hyes
  obtain ⟨g, hg⟩ : ∃ g : Nat → UInt8, (fun j => (s.data.toList.drop i).getD j 0) = g := ⟨_, rfl⟩
  have hgj : ∀ j, (s.data.toList.drop i).getD j 0 = g j := fun j => by rw [← hg]
  rw [hg] at hyes
  simp only [hgj] at hgk hbad hyes
  obtain ⟨r, hr⟩ : ∃ r, unitL (s.data.toList.drop i) = r := ⟨_, rfl⟩
  rw [hr] at hno hbad hyes ⊢
  clear hll hia hg hgj hr
  cases e0 : isAt s.data.toList i 117 with
  | false =>
    have hr : r = -1 := hno (by rw [e0]; simp)
    clear hno hbad hyes hgk
    go_enter Tryd.func95, Tryd.ntmps95
    go_wp2_with (first
      | (go_at_call 81; refine (h117 _ _).mono ?_; rintro e w1 ⟨rfl, rfl⟩))
    go_ret
    exact ⟨ret_int (by omega), rfl⟩
  | true =>
    by_cases hlen : i + 4 < s.size
    · have hyes2 := hyes e0 (by omega)
      have u2 : decide (s.size ≤ i + 4) = false := by simp; omega
      have u3 : decide ((s.size : Int) ≤ (i : Int) + 4) = false := by simp; omega
      clear hno hyes
      go_enter Tryd.func95, Tryd.ntmps95
      go_wp2_with (first
        | (go_at_call 81; refine (h117 _ _).mono ?_; rintro e w1 ⟨rfl, rfl⟩))
      go_loopw [5, 6] (fun a v wr => ∃ k : Nat, a = .int .i64 (hvP g (k - 1)) ∧ v = .int .i64 k ∧ 1 ≤ k ∧ k ≤ 5 ∧ (∀ j, 1 ≤ j → j < k → 0 ≤ hexV (g j)) ∧ w = wr) (fun _ v _ => 6 - (RowKit.intOf v).toNat)
      case atStart => exact ⟨1, rfl, rfl, by omega, by omega, fun j h1 h2 => by omega, rfl⟩
      case round =>
        obtain ⟨k, rfl, rfl, hk1, hk, hall, rfl⟩ := hrel
        have hbd := hvP_bound g (k - 1) (by omega) (fun j h1 h2 => hall j h1 (by omega))
        have HALL := Lib.hid hall
        clear hall
        by_cases hk4 : k < 5
        · have hlt : i + k < s.size := by omega
          have hle4 : (k : Int) ≤ 4 := by omega
          have hg1 := hgk k hlt
          have hd0 : s[i + k].toNat < 256 := s[i + k].toNat_lt
          have hvs : hvP g k = 16 * hvP g (k - 1) + hexV (g k) := by
            obtain ⟨m, rfl⟩ : ∃ m, k = m + 1 := ⟨k - 1, by omega⟩
            rfl
          have hb1 := hbad k (by omega) (by omega)
          have hvl := hexV_le (g k)
          obtain ⟨x, hx⟩ : ∃ x, hexV (g k) = x := ⟨_, rfl⟩
          obtain ⟨n, hn⟩ : ∃ n, hvP g (k - 1) = n := ⟨_, rfl⟩
          rw [hn, hx] at hvs
          rw [hx] at hb1 hvl
          rw [hn] at hbd
          simp only [hn]
          have hxe : hexV s[i + k] = x := by rw [← hg1, hx]
          obtain ⟨c, hc⟩ : ∃ c, s[i + k].toNat = c := ⟨_, rfl⟩
          have q1 := hexV_dig s[i + k]
          have q2 := hexV_low2 s[i + k]
          have q3 := hexV_up s[i + k]
          have q4 := hexV_none s[i + k]
          rw [hxe, hc] at q1 q2 q3 q4
          rw [hc] at hd0
          have HV := Lib.hid hvs
          have HX := Lib.hid hx
          have HC := Lib.hid hc
          clear hvs hx hn hg1 hxe hgk hbad
          by_cases c1 : 48 ≤ c ∧ c ≤ 57
          · have e := q1 c1.1 c1.2
            have v1 : decide ((48 : Int) ≤ (c : Int)) = true := by simp; omega
            have v2 : decide ((c : Int) ≤ 57) = true := by simp; omega
            have hx0 : 0 ≤ x := by omega
            clear q1 q2 q3 q4 c1 hyes2 hb1
            go_wp2
            go_roundw
            case rel =>
              refine ⟨k + 1, by rw [show k + 1 - 1 = k by omega, HV.out, e], by go_num, by omega, by omega, fun j h1 h2 => ?_, trivial⟩
              by_cases hj : j = k
              · rw [hj, HX.out]; exact hx0
              · exact HALL.out j h1 (by omega)
            case measure => simp [RowKit.intOf]; omega
          · by_cases c2 : 97 ≤ c ∧ c ≤ 102
            · have e := q2 c2.1 c2.2
              have v1 : decide ((48 : Int) ≤ (c : Int)) = true := by simp; omega
              have v2 : decide ((c : Int) ≤ 57) = false := by simp; omega
              have v3 : decide ((97 : Int) ≤ (c : Int)) = true := by simp; omega
              have v4 : decide ((c : Int) ≤ 102) = true := by simp; omega
              have hx0 : 0 ≤ x := by omega
              clear q1 q2 q3 q4 c1 hyes2 hb1
              go_wp2
              go_roundw
              case rel =>
                refine ⟨k + 1, by rw [show k + 1 - 1 = k by omega, HV.out, e], by go_num, by omega, by omega, fun j h1 h2 => ?_, trivial⟩
                by_cases hj : j = k
                · rw [hj, HX.out]; exact hx0
                · exact HALL.out j h1 (by omega)
              case measure => simp [RowKit.intOf]; omega
            · by_cases c3 : 65 ≤ c ∧ c ≤ 70
              · have e := q3 c3.1 c3.2
                have v1 : decide ((48 : Int) ≤ (c : Int)) = true := by simp; omega
                have v2 : decide ((c : Int) ≤ 57) = false := by simp; omega
                have v3 : decide ((97 : Int) ≤ (c : Int)) = false := by simp; omega
                have v5 : decide ((65 : Int) ≤ (c : Int)) = true := by simp; omega
                have v6 : decide ((c : Int) ≤ 70) = true := by simp; omega
                have hx0 : 0 ≤ x := by omega
                clear q1 q2 q3 q4 c1 hyes2 hb1
                go_wp2
                go_roundw
                case rel =>
                  refine ⟨k + 1, by rw [show k + 1 - 1 = k by omega, HV.out, e], by go_num, by omega, by omega, fun j h1 h2 => ?_, trivial⟩
                  by_cases hj : j = k
                  · rw [hj, HX.out]; exact hx0
                  · exact HALL.out j h1 (by omega)
                case measure => simp [RowKit.intOf]; omega
              · have e := q4 c1 c2 c3
                have hr : r = -1 := hb1 (by omega)
                clear q1 q2 q3 q4 hyes2
                rcases (show c < 48 ∨ (58 ≤ c ∧ c < 65) ∨ (71 ≤ c ∧ c < 97) ∨ 102 < c by omega) with cc | cc | cc | cc
                · have v1 : decide ((48 : Int) ≤ (c : Int)) = false := by simp; omega
                  have v3 : decide ((97 : Int) ≤ (c : Int)) = false := by simp; omega
                  have v5 : decide ((65 : Int) ≤ (c : Int)) = false := by simp; omega
                  clear c1 c2 c3 cc
                  go_wp2
                  go_ret
                  exact ⟨ret_int (by omega), rfl⟩
                · have v1 : decide ((48 : Int) ≤ (c : Int)) = true := by simp; omega
                  have v2 : decide ((c : Int) ≤ 57) = false := by simp; omega
                  have v3 : decide ((97 : Int) ≤ (c : Int)) = false := by simp; omega
                  have v5 : decide ((65 : Int) ≤ (c : Int)) = false := by simp; omega
                  clear c1 c2 c3 cc
                  go_wp2
                  go_ret
                  exact ⟨ret_int (by omega), rfl⟩
                · have v1 : decide ((48 : Int) ≤ (c : Int)) = true := by simp; omega
                  have v2 : decide ((c : Int) ≤ 57) = false := by simp; omega
                  have v3 : decide ((97 : Int) ≤ (c : Int)) = false := by simp; omega
                  have v5 : decide ((65 : Int) ≤ (c : Int)) = true := by simp; omega
                  have v6 : decide ((c : Int) ≤ 70) = false := by simp; omega
                  clear c1 c2 c3 cc
                  go_wp2
                  go_ret
                  exact ⟨ret_int (by omega), rfl⟩
                · have v1 : decide ((48 : Int) ≤ (c : Int)) = true := by simp; omega
                  have v2 : decide ((c : Int) ≤ 57) = false := by simp; omega
                  have v3 : decide ((97 : Int) ≤ (c : Int)) = true := by simp; omega
                  have v4 : decide ((c : Int) ≤ 102) = false := by simp; omega
                  have v5 : decide ((65 : Int) ≤ (c : Int)) = true := by simp; omega
                  have v6 : decide ((c : Int) ≤ 70) = false := by simp; omega
                  clear c1 c2 c3 cc
                  go_wp2
                  go_ret
                  exact ⟨ret_int (by omega), rfl⟩
        · have hk5 : k = 5 := by omega
          have hr : r = hvP g 4 := by
            rw [hyes2]
            intro j h1 h2
            exact HALL.out j h1 (by omega)
          have e4 : hvP g (k - 1) = r := by rw [hk5, hr]
          have hle4 : ¬ (k : Int) ≤ 4 := by omega
          rw [e4]
          clear hyes2 hk5 hr hgk hbad
          go_wp2
          go_ret
          exact ⟨rfl, rfl⟩
    · have hr : r = -1 := hno (fun h => hlen (by omega))
      have u2 : decide (s.size ≤ i + 4) = true := by simp; omega
      have u3 : decide ((s.size : Int) ≤ (i : Int) + 4) = true := by simp; omega
      clear hno hbad hyes hgk
      go_enter Tryd.func95, Tryd.ntmps95
      go_wp2_with (first
        | (go_at_call 81; refine (h117 _ _).mono ?_; rintro e w1 ⟨rfl, rfl⟩))
      go_ret
      exact ⟨ret_int (by omega), rfl⟩
end Go.Proofs.Jt
